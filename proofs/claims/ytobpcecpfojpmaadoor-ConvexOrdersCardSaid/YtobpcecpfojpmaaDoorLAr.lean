/-
  The references' plain helpers as they compute: All, Within, In, Elements, Size.   Conditions: none.
-/
import Derived.Test.YtobpcecpfojpmaaDoorLS
import Derived.Test.YtobpcecpfojpmaaDoorSprotaref
import Derived.Test.YtobpcecpfojpmaaDoorLM

set_option linter.unusedSimpArgs false
set_option linter.unusedVariables false
namespace Go.SH
open Go Go.AX
theorem rotaref_All_nat {m : Nat} (h : m ≤ 8) : rotaref_All m = some ((2 ^ m - 1 : Nat) : Int) := by
  have h256 := pow_le8 h
  have hpos : 0 < 2 ^ m := Nat.pow_pos (by omega)
  have e : (((2 ^ m : Nat) : Int) - 1) = ((2 ^ m - 1 : Nat) : Int) := by omega
  unfold rotaref_All
  simp only [toNat_nat, shl_nat', e]
  exact chk_pos (by omega)
theorem rotaref_In_nat (s i : Nat) : rotaref_In s i = some (s.testBit i) := by
  unfold rotaref_In
  rw [chk_pos (by omega)]
  simp only [toNat_nat, shr_nat']
  congr 1
  rw [Nat.testBit_eq_decide_div_mod_eq]
  have : (((s / 2 ^ i : Nat) : Int)).tmod 2 = ((s / 2 ^ i % 2 : Nat) : Int) := tmod_two _
  rw [this]
  rw [Bool.eq_iff_iff, decide_eq_true_eq, decide_eq_true_eq]; omega
/-- The elements of a set, rising. -/
def els (s : Nat) : List Nat := (List.range 8).filter fun i => s.testBit i
theorem els_len (s : Nat) : (els s).length = size s := by
  unfold els size
  have : ∀ k, ((List.range k).filter fun i => s.testBit i).length = cnt k s := fun k => by
    induction k with
    | zero => rfl
    | succ k ih =>
      rw [List.range_succ, List.filter_append, List.length_append, ih]
      simp only [cnt]
      cases hb : s.testBit k <;> simp [hb]
  exact this 8
theorem els_mem {s i : Nat} (h : s < 256) : i ∈ els s ↔ s.testBit i = true := by
  unfold els
  rw [List.mem_filter, List.mem_range]
  exact ⟨fun h => h.2, fun h' => ⟨bit_lt (m := 8) h h', h'⟩⟩
theorem rotaref_Elements_nat (s : Nat) : rotaref_Elements s = some (cs (els s)) := by
  refine Gets.eq ?_
  unfold rotaref_Elements
  refine gBind (R := fun o => o = cs (els s)) (gFor 8 (k0 := 0) (fun k x => x.2 = (k : Int) ∧ x.1 = cs ((List.range k).filter fun i => s.testBit i)) (by omega) ⟨rfl, rfl⟩ ?_) fun o ho => gSome ho
  rintro k ⟨_, _⟩ hk ⟨rfl, rfl⟩
  simp only
  refine gIte (fun h1 => ?_) fun h1 => gSome (by have : k = 8 := by omega
                                                 subst this; rfl)
  rw [rotaref_In_nat]
  simp only [Option.bind_some]
  have hle : ((List.range k).filter fun i => s.testBit i).length ≤ k := by
    have := List.length_filter_le (fun i => s.testBit i) (List.range k)
    simpa using this
  refine gIte (fun h2 => gChk (by simp; omega) (gSome ⟨by omega, by simp, ?_⟩)) fun h2 => gSome ⟨by omega, by simp, ?_⟩
  · rw [List.range_succ, List.filter_append, cs_app]; simp [h2]
  · rw [List.range_succ, List.filter_append]; simp [h2]
theorem rotaref_Size_nat (s : Nat) : rotaref_Size s = some ((size s : Nat) : Int) := by
  unfold rotaref_Size
  rw [rotaref_Elements_nat]
  simp [els_len]
end Go.SH
