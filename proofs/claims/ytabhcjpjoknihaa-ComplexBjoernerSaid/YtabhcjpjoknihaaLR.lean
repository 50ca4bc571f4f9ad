/-
  The references' plain helpers as they compute: All, Within, In, Elements, Size. Conditions: sets of eight elements at most.
-/
import Derived.Test.YtabhcjpjoknihaaLOc
import Derived.Test.YtabhcjpjoknihaaSprotaref
set_option linter.unusedSimpArgs false
set_option linter.unusedVariables false
namespace Go.SH
open Go Go.AX
theorem rotaref_Within_nat (a b : Nat) : rotaref_Within a b = some (decide (Inc a b)) := by
  unfold rotaref_Within
  rw [or_nat]; congr 1
  rw [Bool.eq_iff_iff, decide_eq_true_eq, decide_eq_true_eq, ← or_eq_iff]; omega
theorem rotaref_In_nat (s i : Nat) : rotaref_In s i = some (s.testBit i) := by
  unfold rotaref_In
  rw [chk_pos (by omega)]
  simp only [toNat_nat, shr_nat']
  congr 1
  rw [Nat.testBit_eq_decide_div_mod_eq]
  have : (((s / 2 ^ i : Nat) : Int)).tmod 2 = ((s / 2 ^ i % 2 : Nat) : Int) := tmod_two _
  rw [this]
  rw [Bool.eq_iff_iff, decide_eq_true_eq, decide_eq_true_eq]; omega
theorem rotaref_Elements_nat (s : Nat) : rotaref_Elements s = some (cs (els s)) := by
  refine Gets.eq ?_
  unfold rotaref_Elements
  refine gBind (R := fun o => o = cs (els s)) (gFor 8 (k0 := 0) (fun k x => x.2 = (k : Int) ∧ x.1 = cs ((List.range k).filter fun i => s.testBit i)) (by omega) ⟨rfl, rfl⟩ ?_) fun o ho => gSome ho
  rintro k ⟨_, _⟩ hk ⟨rfl, rfl⟩
  simp only
  refine gIte (fun h1 => ?_) fun h1 => gSome (by have : k = 8 := by omega
                                                 subst this; rfl)
  rw [rotaref_In_nat]
  simp only [Option.bind_some]
  have hle : ((List.range k).filter fun i => s.testBit i).length ≤ k := by
    have := List.length_filter_le (fun i => s.testBit i) (List.range k)
    simpa using this
  refine gIte (fun h2 => gChk (by simp; omega) (gSome ⟨by omega, by simp, ?_⟩)) fun h2 => gSome ⟨by omega, by simp, ?_⟩
  · rw [List.range_succ, List.filter_append, cs_app]; simp [h2]
  · rw [List.range_succ, List.filter_append]; simp [h2]
theorem rotaref_Size_nat (s : Nat) : rotaref_Size s = some ((size s : Nat) : Int) := by
  unfold rotaref_Size
  rw [rotaref_Elements_nat]
  simp [els_len]
end Go.SH
