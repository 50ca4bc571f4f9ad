/-
  From the row's condition (the listed tables) to what the calls ask: the table of powers of ten of internal/strconv. Conditions: none.
-/
import Derived.Test.YtlpikingpnenkaaDoorRows
import Derived.Test.YtlpikingpnenkaaDoorAxM
import Derived.Lib.LaidTab
import Derived.LaidMore
import Derived.Stop.Joined
import Derived.Stop.LaidErr
import Derived.ProofKit
set_option linter.unusedSimpArgs false
set_option linter.unusedVariables false
namespace Go.Proofs.YtlpikingpnenkaaDoor
open Go.ChangeShapes Go.WideShapes Go.ChangeAt Go.RowKit

def laid2 : List (String × DataW Unit) := [("math/bits.deBruijn32tab", Rows.laid_math_bits_deBruijn32tab), ("math/bits.deBruijn64tab", Rows.laid_math_bits_deBruijn64tab), ("internal/strconv.uint64pow10", Rows.laid_internal_strconv_uint64pow10)]
theorem tab_data : (Rows.laid_internal_strconv_uint64pow10 : DataW Unit) = Lib.tabData .u64 Lib.pow10Tab := by
  unfold Rows.laid_internal_strconv_uint64pow10 Lib.tabData Lib.pow10Tab
  simp [List.range, List.range.loop]
theorem good_of_laid {W : World} (h : laidMetH Tryd.prog laid2 W) : Go.AX.GoodF (Go.AX.Fw W) := by
  rw [MakeChecks.laidMetH_plain _ _ _ (by kernel_rfl)] at h
  have h1 : laidMet Tryd.prog [("internal/strconv.uint64pow10", Rows.laid_internal_strconv_uint64pow10)] W := h.tail.tail
  rw [tab_data] at h1
  have hg : Tryd.prog.globalNamed "internal/strconv.uint64pow10" = some 0 := by kernel_rfl
  have h2 := Lib.tabIs_of_head (g := 0) (t := 78) (e := 70) (n := 20) hg (by kernel_rfl) Tryd.underlying78 Tryd.underlying70 (by kernel_rfl) (by kernel_rfl) h1
  unfold Lib.TabIs World.var? at h2
  rw [hg] at h2
  simp only [Option.bind_some] at h2
  unfold Go.AX.GoodF Go.AX.Fw
  cases hc : W.heap[0]? with
  | none => rw [hc] at h2; simp at h2
  | some o =>
    rw [hc] at h2
    cases o with
    | cells cs et z =>
      simp at h2
      exact ⟨et, z, by rw [h2]⟩
    | _ => simp at h2
/-- The door's own heap meets the condition. -/
theorem door_met (os : Os) (args : Array Value) : laidMetH Tryd.prog laid2 ((World.doorLaid Tryd.prog 19 os).forCall (fun _ _ => 0) ⟨#[], args, []⟩).memory :=
  laidMetH_of_parts3 (fuel := 8) (laidMet_of_run' 8 (by kernel_rfl) (by kernel_rfl)) (by kernel_rfl) (by kernel_rfl)
end Go.Proofs.YtlpikingpnenkaaDoor
