/-
 Functions that change rows of their caller's in place: what is said of them, how it is shown, how they are called. Conditions: none.
-/
import Derived.Test.YtlpikingpnenkaaAxR
set_option linter.unusedSimpArgs false
set_option linter.unusedVariables false
namespace Go.AX
open Go Go.RowKit
def pinL : Nat → List Loc → List Blk
 | _, [] => []
 | i, l :: r => .pin i l :: pinL (i + 1) r
theorem pinL_get : ∀ (ls : List Loc) (k j : Nat), (pinL k ls)[j]? = (ls[j]?).map fun l => Blk.pin (k + j) l
 | [], k, j => by simp [pinL]
 | l :: r, k, 0 => by simp [pinL]
 | l :: r, k, j + 1 => by
  simp only [pinL, List.getElem?_cons_succ]
  rw [pinL_get r (k + 1) j, show k + 1 + j = k + (j + 1) by omega]
theorem pinL_len : ∀ (ls : List Loc) (k : Nat), (pinL k ls).length = ls.length
 | [], k => rfl
 | l :: r, k => by simp [pinL, pinL_len r]
section
variable {P : Program} {T : Tab} {F : Fz} {φ : Phi} {w0 w : World}
/-! ### the call -/
def killL : List (Option Blk) → List Nat → List (Option Blk)
 | H, [] => H
 | H, j :: js => killL (H.set j none) js
theorem killL_not : ∀ (js : List Nat) (H : List (Option Blk)) {j : Nat}, j ∉ js → (killL H js)[j]? = H[j]?
 | i :: js, H, j, h => by
  simp only [List.mem_cons, not_or] at h
  rw [killL, killL_not js _ h.2, List.getElem?_set_ne (Ne.symm h.1)]
 | [], _, _, _ => rfl
theorem killL_len : ∀ (js : List Nat) (H : List (Option Blk)), (killL H js).length = H.length
 | i :: js, H => by rw [killL, killL_len js]; simp
 | [], _ => rfl
theorem killL_none : ∀ (js : List Nat) (H : List (Option Blk)) {j : Nat} {b : Blk}, (killL H js)[j]? = some (some b) → j ∉ js
 | i :: js, H, j, b, h => by
  rw [killL] at h
  have h1 := killL_none js _ h
  rw [killL_not js _ h1] at h
  intro hm
  rcases List.mem_cons.1 hm with rfl | hm
  ·rcases Nat.lt_or_ge j H.length with q | q
   ·rw [List.getElem?_set_self q] at h; simp at h
   ·rw [List.getElem?_eq_none (by simpa using q)] at h; cases h
  ·exact h1 hm
 | [], _, _, _, _ => by simp
theorem RelH.killL {base : Nat} : ∀ (js : List Nat) {H : List (Option Blk)}, RelH F φ base H w → RelH F φ base (AX.killL H js) w
 | [], _, h => h
 | j :: js, _, h => RelH.killL js (h.kill j)
def flatA : AVal → Bool
 | .int _ _ | .bool _ => true
 | _ => false
theorem flat_rep {F F' : Fz} {φ φ' : Phi} {x : AVal} {v : Value} (hx : flatA x = true) (h : RepV F φ x v) : RepV F' φ' x v := by
 cases x <;> simp only [flatA, Bool.false_eq_true] at hx
 case int => cases h; constructor <;> assumption
 case bool => cases h; constructor
end
end Go.AX
