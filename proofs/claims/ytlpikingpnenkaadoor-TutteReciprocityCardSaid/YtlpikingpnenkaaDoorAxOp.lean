/-
 A list that is not empty, compared with nil; a row of the call's own, cut. Answers that are nil or a list: what is said of them; lists of the call's own that are written no more.  Conditions: none.
-/
import Derived.Test.YtlpikingpnenkaaDoorAxR
set_option linter.unusedSimpArgs false
set_option linter.unusedVariables false
namespace Go.AX
open Go Go.RowKit
variable {P : Program} {T : Tab} {F : Fz} {φ : Phi} {w0 w : World} {st : St}
end Go.AX
set_option linter.unusedSimpArgs false
set_option linter.unusedVariables false
namespace Go.SH
end Go.SH
namespace Go.AX
open Go Go.RowKit
variable {P : Program} {T : Tab} {F : Fz} {φ : Phi} {w0 w : World} {st : St}
theorem wp_monoQ {o : Oper} {a : Act} {w : World} {K K' : Act → World → Prop} {Q Q' : Exit → Act → World → Prop} (h : ∀ a w, K a w → K' a w) (hq : ∀ e a w, Q e a w → Q' e a w)
  (hh : o.wp P a w K Q) : o.wp P a w K' Q' := by
 unfold Oper.wp at *
 generalize (execOp a.eval o).run P w = r at *
 have lo : LetsOut Q → LetsOut Q' := fun ⟨a, w, q⟩ => ⟨a, w, hq _ _ _ q⟩
 cases r with
 | ok n w' =>
  cases n <;> simp only [Oper.upon] at hh ⊢ <;>
   first
    | exact h _ _ hh
    | exact Calls.mono hh (fun e w'' he => by cases e <;> first | exact h _ _ he | exact hq _ _ _ he | exact lo he | exact he)
    | exact Rows.mono hh (fun _ _ he => h _ _ he)
 | halt x w' => cases x <;> simp only [Oper.upon] at hh ⊢ <;> first | exact hq _ _ _ hh | exact hh
theorem wpList_monoQ {ops : Array Oper} {Q Q' : Exit → Act → World → Prop} (hq : ∀ e a w, Q e a w → Q' e a w) : ∀ {l : List Oper} {a : Act} {w : World}, wpList P ops Q l a w → wpList P ops Q' l a w
 | [], a, w, h => hq _ _ _ h
 | o :: rest, a, w, h => by
  unfold wpList at h ⊢
  split
  ·rename_i hw
   rw [if_pos hw] at h
   rcases h with h | ⟨h, a', w', q⟩
   ·exact .inl (wp_monoQ (fun a w hk => wpList_monoQ hq hk) hq h)
   ·exact .inr ⟨h, a', w', hq _ _ _ q⟩
  ·rename_i hw
   rw [if_neg hw] at h
   exact wpList_monoQ hq h
end Go.AX
