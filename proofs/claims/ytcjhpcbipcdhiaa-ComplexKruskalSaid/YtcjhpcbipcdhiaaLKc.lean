/-
  The law ComplexKruskal: of each size there are no fewer faces than the next ones need. Conditions: at most eight elements.
-/
import Derived.Test.YtcjhpcbipcdhiaaLKs
import Derived.Test.YtcjhpcbipcdhiaaLCb
import Derived.Test.YtcjhpcbipcdhiaaSkComplexKruskal
set_option linter.unusedSimpArgs false
set_option linter.unusedVariables false
namespace Go.SH
open Go Go.AX

theorem over_nat {a k : Nat} (ha : a ≤ 8) (hk : k ≤ a) : rotakeep_over (a : Int) (k : Int) = some ((bin a k : Nat) : Int) := by
  have h := choose_nat ha hk
  unfold complex_choose at h
  unfold rotakeep_over
  rw [if_neg (by omega)]
  exact h
theorem bin_ck : ∀ m : Fin 9, ∀ k : Fin 9, ck m.val k.val = bin m.val k.val := by
  intro m k
  have h := ck_tab m ⟨k.val, by omega⟩
  simp only at h
  rw [h]
  have : ∀ m : Fin 9, ∀ k : Fin 9, ((KT.getD m.val []).getD k.val []).length - 1 = bin m.val k.val := of_decide_eq_true (by kernel_rfl)
  exact this m k
theorem face_num (m : Nat) (L : List Nat) (k : Nat) : num m (fun s => decide (Face L s) && decide (cnt m s = k)) = ((fN m L k : Nat) : Int) := by
  rw [num_filter]
  unfold fN facesL
  rw [List.countP_eq_length_filter, List.filter_filter]
  congr 2
  refine List.filter_congr fun x _ => ?_
  rw [Bool.and_comm]
theorem rotakeep_ComplexKruskal_law (n : Int) (l : List Int) (hl : l.length ≤ 9223372036854775807) : rotakeep_ComplexKruskal n l = some true := by
  refine Gets.eq ?_
  unfold rotakeep_ComplexKruskal
  have c3 : Cx 2 [3] := by
    refine ⟨⟨by omega, fun s hs => ?_, fun i j hij hj => ?_⟩, by simp, fun s hs t ht _ => ?_⟩
    · have := List.mem_singleton.1 hs; omega
    · simp at hj; omega
    · rw [List.mem_singleton.1 hs, List.mem_singleton.1 ht]
  have e3 : cs (fL 2 [3]) = [1, 2, 1] := by decide
  refine gBindE (show complex_F 2 [3] = some ([1, 2, 1], 0) by rw [← e3]; exact F_ok c3) ?_
  refine gIte (fun _ => gBindE (SameB _) (gIte (fun q => absurd rfl q) fun _ => ?_)) fun q => absurd (by simp) q
  rcases Classical.em (∃ m L, n = (m : Nat) ∧ l = cs L ∧ Cx m L) with ⟨m, L, rfl, rfl, hC⟩ | hbad
  rotate_left
  · obtain ⟨r, h1, h2⟩ := complex_Check_spec n l hl
    have hr : r ≠ 0 := by
      rcases h2 with ⟨_, q⟩ | ⟨q, _⟩
      · exact absurd q hbad
      · exact q
    refine gBindE (show complex_F n l = some ([], r) by unfold complex_F; rw [h1]; simp [hr]) (gIte (fun _ => gSome (by simp)) fun q => absurd hr q)
  have h8 := hC.m8
  have hd := dim_le m L
  refine gBindE (F_ok hC) (gIte (fun q => absurd rfl q) fun _ => ?_)
  simp only [cs_len, fL_len]
  refine gBind (R := fun z => match z with | .inl _ => True | .inr r => r = true) (gFor (dimL m L + 1) (fun k v => v = (k : Int) ∧ 1 ≤ k) (k0 := 1) (by omega) ⟨rfl, by omega⟩ ?_) ?_
  · rintro k _ hk ⟨rfl, hk1⟩
    refine gIte (fun h1 => gChk (by omega) ?_) fun h1 => gSome trivial
    obtain ⟨k, rfl⟩ : ∃ j, k = j + 1 := ⟨k - 1, by omega⟩
    have hk' : k + 1 < dimL m L + 1 := by omega
    refine gBindE (over_nat h8 (by omega)) ?_
    have e1 : ((k + 1 : Nat) : Int) - 1 = (k : Int) := by omega
    simp only [e1, toNat_nat, cs_get, fL_get hk', fL_get (show k < dimL m L + 1 by omega)]
    have hU : Unif m (k + 1) fun s => decide (Face L s) && decide (cnt m s = k + 1) := fun s hs q => by
      rw [Bool.and_eq_true, decide_eq_true_eq, decide_eq_true_eq] at q
      exact q.2
    have g1 := hU.le
    rw [face_num, bin_ck ⟨m, by omega⟩ ⟨k + 1, by omega⟩] at g1
    simp only at g1
    have g2 := kk h8 k _ hU
    rw [face_num] at g2
    have g3 : num m (shad m fun s => decide (Face L s) && decide (cnt m s = k + 1)) ≤ ((fN m L k : Nat) : Int) := by
      rw [← face_num]
      refine num_le fun s hs q => ?_
      obtain ⟨i, hi, h2, h3⟩ := shad_iff.1 q
      rw [Bool.and_eq_true, decide_eq_true_eq, decide_eq_true_eq] at h3
      rw [Bool.and_eq_true, decide_eq_true_eq, decide_eq_true_eq]
      have := cnt_add hi h2
      exact ⟨h3.1.mono (inc_or_l _ _), by omega⟩
    have g4 : (((fN m L (k + 1) : Nat) : Int)).toNat = fN m L (k + 1) := rfl
    rw [g4] at g2
    refine gChk ⟨fun _ => by omega, fun _ => by omega, fun _ => by omega⟩ ?_
    rw [if_pos (by omega)]
    have hck : fN m L (k + 1) ≤ ck m (k + 1) := by
      have := bin_ck ⟨m, by omega⟩ ⟨k + 1, by omega⟩
      simp only at this
      omega
    refine gBindE (shade_spec h8 (by omega) hck) (gIte (fun q => by omega) fun _ => gSome ⟨by omega, by omega, by omega⟩)
  · rintro (u | rr) hz
    · exact gSome rfl
    · exact gSome hz
end Go.SH
