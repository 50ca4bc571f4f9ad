/-
  Package axioms as it computes: the ranks of all sets. Conditions: none.
-/
import Derived.Test.YtabhcjpjoknihaaLA

set_option linter.unusedSimpArgs false
set_option linter.unusedVariables false
namespace Go.SH
open Go Go.AX
theorem axioms_ranks_spec {m : Nat} {B : List Nat} (hf : Fam m B) : axioms_ranks m (cs B) = some (cs (rkL m B)) := by
  refine Gets.eq ?_
  have h256 := pow_le8 hf.m8
  have h8 := hf.m8
  have hlen := hf.len
  have hpos : 0 < 2 ^ m := Nat.pow_pos (by omega)
  unfold axioms_ranks
  simp only [toNat_nat, shl_nat', List.length_replicate, cs_len, cs_get]
  refine gChk (by omega) (gBind (R := fun o => o = cs (rkL m B)) (gFor (2 ^ m) (fun k x => x.2 = (k : Int) ∧ x.1.length = 2 ^ m ∧ (∀ j, j < k → x.1.getD j 0 = ((rk m B j : Nat) : Int)) ∧ ∀ j, k ≤ j → j < 2 ^ m → x.1.getD j 0 = 0) (Nat.zero_le _) ⟨rfl, by simp, none_all, fun j _ hj => ?_⟩ ?_) fun o ho => gSome ho)
  · simp [List.getD_eq_getElem?_getD, List.getElem?_replicate, hj]
  · rintro k ⟨x, _⟩ hk ⟨rfl, hxl, hlo, hhi⟩
    simp only at hxl hlo hhi ⊢
    refine gIte (fun h1 => ?_) fun h1 => gSome ?_
    · have hk' : k < 2 ^ m := by omega
      refine gBind (R := fun o => o.length = 2 ^ m ∧ (∀ j, j ≠ k → o.getD j 0 = x.getD j 0) ∧ o.getD k 0 = ((rk m B k : Nat) : Int))
        (gFor B.length (fun i y => y.2 = (i : Int) ∧ y.1.length = 2 ^ m ∧ (∀ j, j ≠ k → y.1.getD j 0 = x.getD j 0) ∧ y.1.getD k 0 = ((rk m (B.take i) k : Nat) : Int)) (Nat.zero_le _) ⟨rfl, hxl, fun _ _ => rfl, ?_⟩ ?_) ?_
      · simp only; rw [hhi k (Nat.le_refl _) hk']; rfl
      · rintro i ⟨y, _⟩ hi ⟨rfl, hyl, hne, hkk⟩
        simp only at hyl hne hkk ⊢
        refine gIte (fun h2 => gChk (by omega) (gChk (by omega) ?_)) fun h2 => gSome ⟨hyl, hne, by rw [hkk, List.take_of_length_le (by omega)]⟩
        have hi' : i < B.length := by omega
        have hlt := hf.lt _ (mem_getD.2 ⟨i, hi', rfl⟩)
        simp only [toNat_nat, and_nat]
        rw [axioms_size_nat (by have := and_lt (b := B.getD i 0) hk'; omega)]
        simp only [Option.bind_some]
        refine gChk (by omega) (gSome ⟨hi', by simp, by simpa using hyl, fun j hj => ?_, ?_⟩)
        · rw [set_getD _ (by omega), if_neg hj]; exact hne j hj
        · rw [set_getD _ (by omega), if_pos rfl, hkk, rk_take_succ m B k hi', size_of_lt (and_lt hk') h8]
          omega
      · rintro o ⟨h2, h3, h4⟩
        refine gSome ⟨hk', by simp, h2, step_all (fun j hj => by rw [h3 j (by omega)]; exact hlo j hj) h4, fun j hj hj' => by rw [h3 j (by omega)]; exact hhi j (by omega) hj'⟩
    · have : k = 2 ^ m := by omega
      subst this
      refine list_ext_getD (by rw [hxl, cs_len, rkL_len]) fun i hi => ?_
      rw [hlo i (by omega), cs_get, rkL_get m B (by omega)]

theorem axioms_Ranks_ok {m : Nat} {B : List Nat} (h : Mat m B) : axioms_Ranks m (cs B) = some (cs (rkL m B), 0) := by
  unfold axioms_Ranks
  rw [h.check]
  simp [axioms_ranks_spec h.toFam]
theorem axioms_Ranks_spec (n : Int) (l : List Int) (hl : l.length ≤ 9223372036854775807) : Gets (axioms_Ranks n l) (fun r => (r.2 = 0 ∧ ∃ m B, n = (m : Nat) ∧ l = cs B ∧ Mat m B ∧ r.1 = cs (rkL m B)) ∨ (r.2 ≠ 0 ∧ r.1 = [] ∧ ¬ ∃ m B, n = (m : Nat) ∧ l = cs B ∧ Mat m B)) := by
  unfold axioms_Ranks
  refine gBind (axioms_Check_spec n l hl) fun y hy => gIte (fun h => gSome (.inr ⟨h, rfl, ?_⟩)) fun h => ?_
  · rcases hy with ⟨q, _⟩ | ⟨_, q⟩
    · exact absurd q h
    · exact q
  · rcases hy with ⟨_, m, B, rfl, rfl, hM⟩ | ⟨q, _⟩
    · rw [axioms_ranks_spec hM.toFam]
      exact gSome (.inl ⟨rfl, m, B, rfl, rfl, hM, rfl⟩)
    · exact absurd q h

end Go.SH
