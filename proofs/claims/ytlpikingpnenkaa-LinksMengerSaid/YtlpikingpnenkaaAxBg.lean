/-
 Whole numbers behind pointers: a nil list in a cell becomes a list of the call's own, a list is cut short, slots are written anew. Conditions: none.
-/
import Derived.Test.YtlpikingpnenkaaAxRx
import Derived.Test.YtlpikingpnenkaaAxFj
set_option linter.unusedSimpArgs false
set_option linter.unusedVariables false
namespace Go.AX
open Go Go.RowKit
section
variable {P : Program} {T : Tab} {w0 : World}
theorem ldE {α : Type} (enc : α → List AVal) (d : α) (X : List α) (i : Nat) (h : i < X.length) : (List.map enc X).getD i [] = enc (X.getD i d) := by
 simp only [List.getD_eq_getElem?_getD, List.getElem?_map, List.getElem?_eq_getElem h, Option.map_some, Option.getD_some]
end
end Go.AX
