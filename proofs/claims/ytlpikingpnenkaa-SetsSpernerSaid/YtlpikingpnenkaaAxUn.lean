/-
 A loop of so many rounds, one by one; a call that may give back what was handed in, in a state without blocks of its own. Conditions: none.
-/
import Derived.Test.YtlpikingpnenkaaAxOp
set_option linter.unusedSimpArgs false
set_option linter.unusedVariables false
namespace Go.AX
open Go Go.RowKit
section
variable {P : Program} {T : Tab} {w0 : World}
/-- What is still to show of a loop of so many rounds at most. -/
def unr (P : Program) (w0 : World) (c : Code) (Q : Exit → St → Prop) : Nat → St → Prop
 | 0, _ => False
 | n + 1, st => AWP P w0 c (thenA (unr P w0 c Q n) Q) st
theorem AWP_unroll (n : Nat) {c : Code} {Q : Exit → St → Prop} {st : St} (h : unr P w0 c Q n st) : AWP P w0 (.loop c) Q st := by
 refine AWP_loop (fun n st => unr P w0 c Q n st) n h fun n st hI => ?_
 cases n with
 | zero => exact hI.elim
 | succ n =>
  refine AWP.mono (show AWP P w0 c (thenA (unr P w0 c Q n) Q) st from hI) fun e st' hq => ?_
  cases e with
  | normal => exact ⟨n, Nat.lt_succ_self n, hq⟩
  | _ => exact hq
theorem unr_go {n : Nat} {c : Code} {Q : Exit → St → Prop} {st : St} (h : AWP P w0 c (thenA (unr P w0 c Q n) Q) st) : unr P w0 c Q (n + 1) st := h
theorem thenA_n {R : St → Prop} {Q : Exit → St → Prop} {st : St} (h : R st) : thenA R Q .normal st := h
theorem thenA_x {R : St → Prop} {Q : Exit → St → Prop} {st : St} {id : Nat} (h : Q (.exit id) st) : thenA R Q (.exit id) st := h
theorem thenA_r {R : St → Prop} {Q : Exit → St → Prop} {st : St} (h : Q .ret st) : thenA R Q .ret st := h
end
end Go.AX
namespace Go.AX
open Go
/-- What may be handed in as it is. -/
def selfOk : AVal → Bool
 | .func _ caps => caps.all atomB
 | x => atomB x
theorem selfOk_arg {H : List (Option Blk)} {x : AVal} (h : selfOk x = true) : ArgOk H x x := by
 cases x
 case func f caps =>
  refine .func f caps caps rfl fun i x y hx hy => ?_
  rw [hx] at hy
  injection hy with hy
  subst hy
  exact .atom _ (List.all_eq_true.1 h x (List.mem_of_getElem? hx))
 all_goals exact .atom _ h
theorem ArgOk.ownSelf {H : List (Option Blk)} {id n sz : Nat} {et : TypeId} {es : List (List AVal)} (hb : getB H id = some (.gen et sz es)) (hn : es.length = n) (ho : (es.all fun e => e.all selfOk) = true) : ArgOk H (.own id n) (.imm sz es) := by
 refine .ownM id n et sz es es hb (by omega) hn (fun i e f he hf => ?_) (fun i e f j x y he hf hx hy => ?_)
 ·rw [he] at hf; injection hf with hf; rw [hf]
 ·rw [he] at hf; injection hf with hf; subst hf
  rw [hx] at hy; injection hy with hy; subst hy
  exact selfOk_arg (List.all_eq_true.1 (List.all_eq_true.1 ho e (List.mem_of_getElem? he)) x (List.mem_of_getElem? hx))
end Go.AX
