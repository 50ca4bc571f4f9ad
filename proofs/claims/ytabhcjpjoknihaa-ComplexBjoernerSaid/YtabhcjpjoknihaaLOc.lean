/-
  The elements of a set in their order; how many bits stand. Conditions: sets of eight elements at most.
-/
import Derived.Test.YtabhcjpjoknihaaLS
import Derived.Test.YtabhcjpjoknihaaLM
import Derived.Test.YtabhcjpjoknihaaSp
set_option linter.unusedSimpArgs false
set_option linter.unusedVariables false
namespace Go.SH
open Go Go.AX

/-- The elements of a set, rising. -/
def els (s : Nat) : List Nat := (List.range 8).filter fun i => s.testBit i
theorem els_len (s : Nat) : (els s).length = size s := by
  unfold els size
  have : ∀ k, ((List.range k).filter fun i => s.testBit i).length = cnt k s := fun k => by
    induction k with
    | zero => rfl
    | succ k ih =>
      rw [List.range_succ, List.filter_append, List.length_append, ih]
      simp only [cnt]
      cases hb : s.testBit k <;> simp [hb]
  exact this 8
theorem els_mem {s i : Nat} (h : s < 256) : i ∈ els s ↔ s.testBit i = true := by
  unfold els
  rw [List.mem_filter, List.mem_range]
  exact ⟨fun h => h.2, fun h' => ⟨bit_lt (m := 8) h h', h'⟩⟩
theorem oc_tab : ∀ a : Fin 256, oc (a.val : Int) = ((size a.val : Nat) : Int) := of_decide_eq_true (by kernel_rfl)
theorem oc_size {a : Nat} (h : a < 256) : oc (a : Int) = ((size a : Nat) : Int) := oc_tab ⟨a, h⟩
end Go.SH
