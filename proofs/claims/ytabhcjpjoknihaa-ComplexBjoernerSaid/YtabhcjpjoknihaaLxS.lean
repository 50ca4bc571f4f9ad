/-
  Lists that are the same: the small loop. Conditions: none.
-/
import Derived.Test.YtabhcjpjoknihaaLS
import Derived.Test.YtabhcjpjoknihaaSp
set_option linter.unusedSimpArgs false
set_option linter.unusedVariables false
namespace Go.SH
open Go Go.AX

theorem list_extI {a b : List Int} (hl : a.length = b.length) (h : ∀ i, i < a.length → a.getD i 0 = b.getD i 0) : a = b :=
  List.ext_getElem hl fun i h1 h2 => by
    have := h i h1
    rw [List.getD_eq_getElem?_getD, List.getD_eq_getElem?_getD, List.getElem?_eq_getElem h1, List.getElem?_eq_getElem h2] at this
    exact this
theorem Same_spec (a b : List Int) : rotalaw_Same_int a b = some (decide (a = b)) := by
  refine Gets.eq ?_
  unfold rotalaw_Same_int
  refine gIte (fun q => gSome ?_) fun q => ?_
  · have : a ≠ b := fun e => q (by rw [e])
    simp [this]
  have hl : a.length = b.length := by omega
  refine gBind (R := fun z => match z with | .inl _ => a = b | .inr r => r = false ∧ a ≠ b) (gFor a.length (fun k (x : Int) => x = (k : Int) ∧ ∀ j, j < k → a.getD j 0 = b.getD j 0) (Nat.zero_le _) ⟨rfl, none_all⟩ ?_) ?_
  · rintro k _ hk ⟨rfl, hI⟩
    simp only [toNat_nat]
    refine gIte (fun h1 => gChk (by omega) (gIte (fun q => gSome ⟨rfl, fun e => q (by rw [e])⟩) fun q => gSome ⟨by omega, by simp, step_all hI (by omega)⟩)) fun h1 => gSome ?_
    refine list_extI hl fun i hi => hI i (by omega)
  · rintro (u | r) hz
    · exact gSome (by simp [show a = b from hz])
    · exact gSome (by rw [hz.1]; simp [hz.2])
end Go.SH
