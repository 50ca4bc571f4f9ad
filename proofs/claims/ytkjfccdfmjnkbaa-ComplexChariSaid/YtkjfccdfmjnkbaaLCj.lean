/-
  The law ComplexChari. Conditions: none.
-/
import Derived.Test.YtkjfccdfmjnkbaaLCi
import Derived.Test.YtkjfccdfmjnkbaaLJu
import Derived.Test.YtkjfccdfmjnkbaaSkComplexChari
set_option linter.unusedSimpArgs false
set_option linter.unusedVariables false
namespace Go.SH
open Go Go.AX

theorem SameCj (l : List Int) : rotalaw_Same_int l l = some true := by
  refine Gets.eq ?_
  unfold rotalaw_Same_int
  refine gIte (fun q => absurd rfl q) fun _ => gBind (R := fun z => match z with | .inl _ => True | .inr r => False) (gFor l.length (fun k v => v = (k : Int)) (Nat.zero_le _) rfl ?_) ?_
  · rintro k _ hk rfl
    exact gIte (fun h1 => gChk (by omega) (gIte (fun q => absurd rfl q) fun _ => gSome ⟨by omega, by simp⟩)) fun _ => gSome trivial
  · rintro (u | rr) hz
    · exact gSome rfl
    · exact hz.elim
theorem cx3 : Cx 2 [3] := ⟨⟨by omega, by decide, fun i j hij hj => by simp at hj; omega⟩, by simp, by decide⟩
theorem h3 : hL 2 [3] = [1, 0, 0] := by decide +kernel
theorem H3 : complex_H 2 [3] = some ([1, 0, 0], 0) := by
  have := H_ok cx3
  rw [h3] at this
  exact this
section
variable {m : Nat} {B : List Nat} (h : Mat m B)
include h
theorem Mat.cx : Cx m B where
  toFam := h.toFam
  ne := fun q => by obtain ⟨b, hb⟩ := h.exists_basis; subst q; cases hb
  anti := fun s hs t ht hst => inc_eq_of_cnt hst (h.lt t ht) (Nat.le_of_eq (h.eqc t ht s hs))
theorem Mat.dimL_eq : dimL m B = rk m B (2 ^ m - 1) := by
  refine Nat.le_antisymm ?_ ?_
  · refine (foldl_max_le (f := cnt m)).2 ⟨Nat.zero_le _, fun b hb => ?_⟩
    refine Nat.le_trans (cnt_le_of_inc (b := (2 ^ m - 1) &&& b) fun i hi => ?_) (le_rk hb)
    rw [Nat.testBit_and, full_bit, hi, Bool.and_true, decide_eq_true_eq]
    exact bit_lt (h.lt b hb) hi
  · exact rk_le.2 fun b hb => Nat.le_trans (cnt_le_of_inc (inc_and_r _ _)) (cnt_le_dim hb)
theorem Mat.fN_eq (k : Nat) : ((fN m B k : Nat) : Int) = fS (rk m B) (2 ^ m - 1) k := by
  have h8 := h.m8
  have e1 : ((fN m B k : Nat) : Int) = sumN (2 ^ m) fun s => ind (Inc s (2 ^ m - 1) ∧ rk m B s = cnt 8 s ∧ cnt 8 s = k) := by
    unfold fN facesL
    rw [List.countP_filter, ← Cx.f_zero.sumN_countP']
    refine sumN_congr fun s hs => ?_
    have hc := cnt8 h8 hs
    have hi := h.ind_iff hs
    have hf : Inc s (2 ^ m - 1) := fun i hi => by rw [full_bit, decide_eq_true_eq]; exact bit_lt hs hi
    have key : (Face B s ∧ cnt m s = k) ↔ (Inc s (2 ^ m - 1) ∧ rk m B s = cnt 8 s ∧ cnt 8 s = k) := by
      rw [hc]
      exact ⟨fun q => ⟨hf, hi.1 q.1, q.2⟩, fun q => ⟨hi.2 q.2.1, q.2.2⟩⟩
    by_cases c : Face B s ∧ cnt m s = k
    · rw [if_pos (by simp [c.1, c.2]), ind_pos (key.1 c)]
    · rw [if_neg (by simpa using fun a b => c ⟨b, a⟩), ind_neg fun q => c (key.2 q)]
  rw [e1]
  unfold fS
  have hp : 2 ^ m ≤ 2 ^ 8 := Nat.pow_le_pow_right (by omega) h8
  obtain ⟨d, hd⟩ : ∃ d, 2 ^ 8 = 2 ^ m + d := ⟨2 ^ 8 - 2 ^ m, by omega⟩
  rw [hd, sumN_split]
  rw [sumN_congr (n := d) (h := fun _ => 0) fun i _ => ind_neg fun q => ?_, sumN_zero, Int.add_zero]
  have := q.1.lt (full_lt m)
  omega
theorem Mat.hN_eq (k : Nat) : hN m B k = HI (rk m B) (2 ^ m - 1) (k : Int) := by
  rw [HI_nat]
  unfold hN hq
  refine sumN_congr fun i _ => ?_
  unfold hT
  rw [h.fN_eq, h.dimL_eq]
end

theorem rotakeep_ComplexChari_law (n : Int) (l : List Int) (hl : l.length ≤ 9223372036854775807) : rotakeep_ComplexChari n l = some true := by
  refine Gets.eq ?_
  unfold rotakeep_ComplexChari
  refine gBindE H3 (gIte (fun _ => ?_) fun q => absurd (by simp) q)
  refine gBindE (SameCj _) (gIte (fun q => absurd rfl q) fun _ => ?_)
  refine gBind (axioms_Check_spec n l hl) ?_
  rintro y (⟨rfl, m, B, rfl, rfl, h⟩ | ⟨h0, _⟩)
  rotate_left
  · exact gIte (fun _ => gSome rfl) fun q => absurd h0 q
  refine gIte (fun q => absurd rfl q) fun _ => ?_
  have h8 := h.m8
  refine gBindE (H_ok h.cx) (gIte (fun q => absurd rfl q) fun _ => ?_)
  have hd := dim_le m B
  simp only [hL_len]
  refine gChk (by omega) ?_
  obtain ⟨s, s1, s2, s3⟩ := RkF.chari 8 h.rkF (G := 2 ^ m - 1) (Nat.lt_of_lt_of_le (full_lt m) (Nat.pow_le_pow_right (by omega) h8)) (cnt_le 8 _)
  rw [← h.dimL_eq] at s1
  have get : ∀ k : Nat, k < dimL m B + 1 → (hL m B).getD k 0 = HI (rk m B) (2 ^ m - 1) (k : Int) := fun k hk => by rw [hL_get hk, h.hN_eq]
  have g0 : HI (rk m B) (2 ^ m - 1) ((0 : Nat) : Int) = 1 := by
    rw [← h.hN_eq, h_zero, h.cx.f_zero]; rfl
  refine gBind (R := fun v => v = (s : Int)) (gLoop (fun v => ∃ k : Nat, v = (k : Int) ∧ s ≤ k ∧ k ≤ dimL m B) Int.toNat ⟨dimL m B, by omega, s1, Nat.le_refl _⟩ ?_) ?_
  · rintro _ ⟨k, rfl, hk1, hk2⟩
    refine gChk (by omega) ?_
    simp only [toNat_nat, get k (by omega)]
    refine gIte (fun q => gChk (by omega) (gSome ⟨⟨k - 1, by omega, ?_, by omega⟩, by omega⟩)) fun q => gSome ?_
    · rcases Nat.lt_or_ge s k with c | c
      · omega
      · exfalso
        have e : k = s := by omega
        subst e
        have := s2 ((0 : Nat) : Int) k (by omega) (by omega)
        omega
    · rcases Nat.lt_or_ge s k with c | c
      · exact absurd ⟨by omega, s3 k (by omega)⟩ q
      · show (k : Int) = s
        omega
  rintro _ rfl
  have ed : Int.tdiv (s : Int) 2 = ((s / 2 : Nat) : Int) := by
    rw [Int.tdiv_eq_ediv_of_nonneg (by omega)]; omega
  simp only [ed]
  refine gBind (R := fun z => match z with | .inl _ => True | .inr r => False) (gFor (s / 2 + 1) (fun k v => v = (k : Int)) (Nat.zero_le _) rfl ?_) ?_
  · rintro k _ hk rfl
    refine gChk (by omega) (gIte (fun h1 => ?_) fun _ => gSome trivial)
    have e1 : (s : Int) - k = ((s - k : Nat) : Int) := by omega
    have a1 := s2 (k : Int) ((s - k : Nat) : Int) (by omega) (by omega)
    have a2 : 0 < k → HI (rk m B) (2 ^ m - 1) ((k - 1 : Nat) : Int) ≤ HI (rk m B) (2 ^ m - 1) (k : Int) := fun _ => s2 _ _ (by omega) (by omega)
    simp only [e1, toNat_nat, get k (by omega), get (s - k) (by omega)]
    refine gChk (by omega) ?_
    refine gIte (fun q => ?_) fun _ => gChk (by omega) (gSome ⟨by omega, by simp⟩)
    exfalso
    rcases q with q | ⟨q1, q2⟩
    · omega
    · have e2 : ((k : Int) - 1).toNat = k - 1 := by omega
      rw [e2, get (k - 1) (by omega)] at q2
      have := a2 (by omega)
      omega
  · rintro (u | rr) hz
    · exact gSome rfl
    · exact hz.elim
end Go.SH
