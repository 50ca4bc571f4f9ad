/-
 A drawn region in which states meet on the way: each is gone on from once. Conditions: none.
-/
import Derived.Test.YtlpikingpnenkaaAxW
set_option linter.unusedSimpArgs false
set_option linter.unusedVariables false
namespace Go.AX
open Go Go.RowKit
variable {P : Program} {w0 : World}
theorem AWPB_memo {all : Array Oper} {Q : Exit → St → Prop} {n : Nat} {L0 : Array Bool} {st0 : St} (h : ∀ A : Nat → Array Bool → St → Prop, (∀ g L st, A g L st ↔ AWPB P w0 all Q g L st) → A n L0 st0) : AWPB P w0 all Q n L0 st0 :=
 h (fun g L st => AWPB P w0 all Q g L st) fun _ _ _ => Iff.rfl
theorem AWPB_wk (ρ : List Nat) {all : Array Oper} {Q : Exit → St → Prop} {g : Nat} {L : Array Bool} {st st' : St} (hw : Wk ρ st st') (h : AWPB P w0 all Q g L st') : AWPB P w0 all Q g L st :=
 fun F φ a w hr => h F _ a w (hr.wk hw)
end Go.AX
