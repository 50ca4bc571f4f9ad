/-
 Lists of rows of the call's own: rows taken in, exchanged, written no more. Conditions: none.
-/
import Derived.Test.YtlpikingpnenkaaAxGc
set_option linter.unusedSimpArgs false
set_option linter.unusedVariables false
namespace Go.AX
open Go Go.RowKit
section
variable {P : Program} {w0 : World} {F : Fz} {φ : Phi}
/-- The same, said otherwise. -/
def GS (w0 : World) (st st' : St) : Prop := ∀ F φ a w, Rel F φ w0 st a w → ∃ F' φ', FLn w0 F F' ∧ Rel F' φ' w0 st' a w
theorem AWP_gs {c : Code} {Q : Exit → St → Prop} {st st' : St} (hg : GS w0 st st') (h : AWP P w0 c Q st') : AWP P w0 c Q st := fun F φ a w hr => by
 obtain ⟨F', φ', hle, hr'⟩ := hg F φ a w hr
 exact wp_mono (h F' φ' a w hr') fun e a' w' hq => hq.le hle
theorem AWPL_gs {all : Array Oper} {Q : Exit → St → Prop} {l : List Oper} {st st' : St} (hg : GS w0 st st') (h : AWPL P w0 all Q l st') : AWPL P w0 all Q l st := fun F φ a w hr => by
 obtain ⟨F', φ', hle, hr'⟩ := hg F φ a w hr
 exact wpList_monoQ (fun e a' w' hq => hq.le hle) (h F' φ' a w hr')
theorem AWP_gs' {c : Code} {Q : Exit → St → Prop} {st st1 : St} (hg : GS w0 st st1) (h : ∀ st', st1 = st' → AWP P w0 c Q st') : AWP P w0 c Q st := AWP_gs hg (h _ rfl)
theorem AWPL_gs' {all : Array Oper} {Q : Exit → St → Prop} {l : List Oper} {st st1 : St} (hg : GS w0 st st1) (h : ∀ st', st1 = st' → AWPL P w0 all Q l st') : AWPL P w0 all Q l st := AWPL_gs hg (h _ rfl)
/-! ### rows change places -/
end
end Go.AX
