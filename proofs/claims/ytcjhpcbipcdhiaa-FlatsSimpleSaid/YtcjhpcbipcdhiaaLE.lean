/-
  Circuits meet strongly; the statement AxiomsStrong as a plain law. Conditions: lists are no longer than 2^63 - 1.
-/
import Derived.Test.YtcjhpcbipcdhiaaLD
set_option linter.unusedSimpArgs false
set_option linter.unusedVariables false
namespace Go.SH
open Go Go.AX

theorem ContainsFunc_spec (L : List Nat) (f : Int → Option Bool) (p : Nat → Bool) (hl : L.length < 2 ^ 60) (hf : ∀ s, s ∈ L → f (s : Nat) = some (p s)) :
    Gets (slices_ContainsFunc_int_int (cs L) f) (fun r => r = true ↔ ∃ s, s ∈ L ∧ p s = true) := by
  unfold slices_ContainsFunc_int_int slices_IndexFunc_int_int
  refine gBind (R := fun r : Int => 0 ≤ r ↔ ∃ s, s ∈ L ∧ p s = true) (gBind (R := fun z => match z with | .inl _ => ∀ k, k < L.length → p (L.getD k 0) = false | .inr r => 0 ≤ r ∧ ∃ s, s ∈ L ∧ p s = true)
    (gFor L.length (fun k v => v = (k : Int) ∧ ∀ j, j < k → p (L.getD j 0) = false) (Nat.zero_le _) ⟨rfl, none_all⟩ ?_) ?_) fun r hr => gSome ?_
  · rintro k _ hk ⟨rfl, hb⟩
    simp only [cs_len, cs_get, toNat_nat]
    refine gIte (fun h1 => gChk (by omega) ?_) fun h1 => gSome fun j hj => hb j (by omega)
    have hk' : k < L.length := by omega
    have hm : L.getD k 0 ∈ L := mem_getD.2 ⟨k, hk', rfl⟩
    rw [hf _ hm]
    simp only [Option.bind_some]
    refine gIte (fun q => gSome ⟨by omega, _, hm, q⟩) fun q => gSome ⟨hk', by simp, step_all hb (bool_ne q)⟩
  · rintro (u | rr) hz
    · refine gSome ⟨fun q => absurd q (by omega), fun ⟨s, hs, hp⟩ => ?_⟩
      obtain ⟨k, hk, rfl⟩ := mem_getD.1 hs
      rw [hz k hk] at hp; cases hp
    · exact gSome ⟨fun _ => hz.2, fun _ => hz.1⟩
  · rw [decide_eq_true_eq]; exact hr

section
variable {m : Nat} {B : List Nat} (h : Mat m B)
include h
theorem Mat.circ_in {f : Nat} (hf : f < m) : ∀ (k D : Nat), cnt m D ≤ k → D < 2 ^ m → D.testBit f = false → rk m B (D ||| 2 ^ f) = rk m B D → ∃ C, C < 2 ^ m ∧ Circ m B C ∧ C.testBit f = true ∧ Inc C (D ||| 2 ^ f) := by
  intro k
  induction k with
  | zero =>
    intro D hk hD hDf e
    have : rk m B D ≤ 0 := Nat.le_trans (h.rk_size D) hk
    refine ⟨D ||| 2 ^ f, or_lt hD (pow_lt hf), ⟨by rw [cnt_add hf hDf]; omega, fun i hi hb => ?_⟩, by simp, Inc.refl _⟩
    have hD0 : D = 0 := by
      rcases Nat.eq_zero_or_pos D with c | c
      · exact c
      · obtain ⟨j, hj⟩ := exists_bit (show D ≠ 0 by omega)
        have := cnt_pos hD hj
        omega
    subst hD0
    have : dif (0 ||| 2 ^ f) (2 ^ i) = 0 := by
      rw [Nat.zero_or] at hb ⊢
      rw [testBit_pow] at hb
      have : f = i := of_decide_eq_true hb
      subst this
      exact (sub_iff_dif _ _).2 (Inc.refl _)
    rw [this, h.rk_zero, cnt_zero]
  | succ k ih =>
    intro D hk hD hDf e
    by_cases hex : ∃ i, D.testBit i = true ∧ rk m B (dif D (2 ^ i) ||| 2 ^ f) = rk m B (dif D (2 ^ i))
    · obtain ⟨i, hi, e2⟩ := hex
      have c1 := cnt_dif hD hi
      obtain ⟨C, q1, q2, q3, q4⟩ := ih (dif D (2 ^ i)) (by omega) (dif_lt hD) (by rw [testBit_dif, hDf]; rfl) e2
      exact ⟨C, q1, q2, q3, q4.trans (inc_or ((inc_dif _ _).trans (inc_or_l _ _)) (inc_or_r _ _))⟩
    · have hmin : ∀ i, D.testBit i = true → rk m B (dif D (2 ^ i) ||| 2 ^ f) ≠ rk m B (dif D (2 ^ i)) := fun i hi c => hex ⟨i, hi, c⟩
      have hind : rk m B D = cnt m D := by
        rcases Nat.lt_or_ge (rk m B D) (cnt m D) with c | c
        · exfalso
          obtain ⟨I, hI, hID, hIc⟩ := h.rk_ind (s := D)
          obtain ⟨i, hi, hiI⟩ : ∃ i, D.testBit i = true ∧ I.testBit i = false := not_inc fun q => by
            have := cnt_le_of_inc (m := m) q
            omega
          have hI' : Inc I (dif D (2 ^ i)) := fun j hj => by
            refine dif_self_pow (hID j hj) fun q => ?_
            subst q; rw [hiI] at hj; cases hj
          have r1 := h.ind_le hI hI'
          have r2 := h.rk_mono (inc_dif D (2 ^ i))
          have r3 := h.rk_mono (show Inc (dif D (2 ^ i) ||| 2 ^ f) (D ||| 2 ^ f) from inc_or ((inc_dif _ _).trans (inc_or_l _ _)) (inc_or_r _ _))
          have r4 := h.rk_mono (inc_or_l (dif D (2 ^ i)) (2 ^ f))
          exact hmin i hi (by omega)
        · have := h.rk_size D; omega
      refine ⟨D ||| 2 ^ f, or_lt hD (pow_lt hf), ⟨by rw [cnt_add hf hDf]; omega, fun i hi hb => ?_⟩, by simp, Inc.refl _⟩
      by_cases c : f = i
      · subst c
        have : dif (D ||| 2 ^ f) (2 ^ f) = D := by
          apply Nat.eq_of_testBit_eq
          intro j
          rw [testBit_dif, Nat.testBit_or, testBit_pow]
          by_cases c2 : f = j
          · subst c2; simp [hDf]
          · simp [c2]
        rw [this, hind]
      · have hDi : D.testBit i = true := by
          rw [Nat.testBit_or, testBit_pow] at hb
          simpa [c] using hb
        have : dif (D ||| 2 ^ f) (2 ^ i) = dif D (2 ^ i) ||| 2 ^ f := by
          apply Nat.eq_of_testBit_eq
          intro j
          simp only [testBit_dif, Nat.testBit_or, testBit_pow]
          by_cases c2 : f = j
          · have : i ≠ j := fun q => c (c2.trans q.symm)
            simp [c2, this]
          · simp [c2]
        rw [this]
        have hf' : (dif D (2 ^ i)).testBit f = false := by rw [testBit_dif, hDf]; rfl
        have c1 := cnt_dif hD hDi
        have c3 := cnt_add hf hf'
        have r0 := (h.ind_iff (dif_lt hD)).1 (((h.ind_iff hD).2 hind).mono (inc_dif D (2 ^ i)))
        have r1 := hmin i hDi
        have r2 := h.rk_mono (inc_or_l (dif D (2 ^ i)) (2 ^ f))
        have r3 := h.rk_step (dif D (2 ^ i)) hf
        omega
theorem Circ.span {C i : Nat} (hm : C < 2 ^ m) (hC : Circ m B C) (hi : C.testBit i = true) : rk m B (dif C (2 ^ i) ||| 2 ^ i) = rk m B (dif C (2 ^ i)) := by
  have _ := h
  rw [dif_or hi]
  have := hC.1
  have := hC.2 i (bit_lt hm hi) hi
  have := cnt_dif hm hi
  omega
theorem Mat.strong {C1 C2 e f : Nat} (h1 : C1 < 2 ^ m) (h2 : C2 < 2 ^ m) (hC1 : Circ m B C1) (hC2 : Circ m B C2) (e1 : C1.testBit e = true) (e2 : C2.testBit e = true) (f1 : C1.testBit f = true) (f2 : C2.testBit f = false) :
    ∃ C, C < 2 ^ m ∧ Circ m B C ∧ C.testBit f = true ∧ C.testBit e = false ∧ Inc C (C1 ||| C2) := by
  have hfm := bit_lt h1 f1
  have hef : e ≠ f := fun q => by subst q; rw [e2] at f2; cases f2
  have hA : dif (dif (C1 ||| C2) (2 ^ e)) (2 ^ f) < 2 ^ m := dif_lt (dif_lt (or_lt h1 h2))
  have bitA : ∀ j, (dif (dif (C1 ||| C2) (2 ^ e)) (2 ^ f)).testBit j = ((C1.testBit j || C2.testBit j) && !decide (e = j) && !decide (f = j)) := fun j => by
    rw [testBit_dif, testBit_dif, Nat.testBit_or, testBit_pow, testBit_pow]
  generalize hAe : dif (dif (C1 ||| C2) (2 ^ e)) (2 ^ f) = A at *
  have s1 := h.rk_stay (s := dif C2 (2 ^ e)) (t := A) (i := e) (fun j hj => by
    rw [testBit_dif, testBit_pow] at hj
    simp only [Bool.and_eq_true, Bool.not_eq_true'] at hj
    rw [bitA, hj.1, hj.2]
    have : f ≠ j := fun q => by subst q; rw [f2] at hj; cases hj.1
    simp [this]) (Circ.span h h2 hC2 e2)
  have s2 := h.rk_stay (s := dif C1 (2 ^ f)) (t := A ||| 2 ^ e) (i := f) (fun j hj => by
    rw [testBit_dif, testBit_pow] at hj
    simp only [Bool.and_eq_true, Bool.not_eq_true'] at hj
    rw [Nat.testBit_or, testBit_pow, bitA, hj.1, hj.2]
    by_cases c : e = j <;> simp [c]) (Circ.span h h1 hC1 f1)
  have r1 := h.rk_mono (show Inc (A ||| 2 ^ f) (A ||| 2 ^ e ||| 2 ^ f) from inc_or ((inc_or_l _ _).trans (inc_or_l _ _)) (inc_or_r _ _))
  have r2 := h.rk_mono (inc_or_l A (2 ^ f))
  obtain ⟨C, q1, q2, q3, q4⟩ := h.circ_in hfm (cnt m A) A (Nat.le_refl _) hA (by rw [bitA]; simp) (by omega)
  refine ⟨C, q1, q2, q3, ?_, q4.trans (inc_or ?_ ((inc_pow f1).trans (inc_or_l _ _)))⟩
  · cases hq : C.testBit e with
    | false => rfl
    | true =>
      have := q4 e hq
      rw [Nat.testBit_or, testBit_pow, bitA] at this
      simp [hef.symm] at this
  · intro j hj
    rw [bitA] at hj
    simp only [Bool.and_eq_true] at hj
    rw [Nat.testBit_or]; exact hj.1.1
end

theorem ind_one : ((List.range (2 ^ 1)).filter fun s => decide (rk 1 [1] s = cnt 1 s)) = [0, 1] := by decide +kernel

end Go.SH
