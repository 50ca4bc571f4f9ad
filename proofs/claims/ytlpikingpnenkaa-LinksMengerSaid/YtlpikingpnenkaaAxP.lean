/-
 The library's sort, at a row of the call's own: the row's first n integers stand in order behind the call. Conditions: the sort's text lies in the program as the kit's shelf has it.
-/
import Derived.Test.YtlpikingpnenkaaAxR
import Derived.Shelf.Sort.Plain
import Derived.Shelf.Slices.In.SortNone
import Derived.Shelf.Slices.CompactI
import Derived.Shelf.Slices.Clone
set_option linter.unusedSimpArgs false
set_option linter.unusedVariables false
namespace Go.AX
open Go Go.RowKit
variable {F : Fz} {φ : Phi} {w : World}
/-- A call that turns blocks of the call's own and gives r. -/
theorem AWPL_prim (K : List Nat) {P : Program} {w0 : World} {st : St} {all : Array Oper} {Q : Exit → St → Prop} {rest : List Oper} {o : Oper} {fo x : Operand} {tys : Array TypeId} {d f : Nat} {r : AVal} {h' : List (Option Blk)}
  (hop : o.op = .call ⟨.value fo, #[x], tys⟩) (hdst : o.dst = some d) (hpc : pcOf all st.s o.guard = (true, true)) (hf : opd st.s fo = .func f []) (hcall : ∀ args w, (callFunc f args).run P w = .ok (.enter f args) w) (hd : d < st.n)
  (hc : ∀ F φ w v, RelH F φ w0.heap.size st.h w → w0.heap.size ≤ w.heap.size → RepV F φ (opd st.s x) v → Calls P f #[v] w fun e w' => ∃ v' φ', e = .returned v' ∧ PLe φ φ' ∧ RelH F φ' w0.heap.size h' w' ∧ RepV F φ' r v' ∧ Below w0.heap.size w w')
  (h : ∀ st', (⟨st.n, keepL K (putL st.s d r), h'⟩ : St) = st' → AWPL P w0 all Q rest st') : AWPL P w0 all Q (o :: rest) st := by
 intro F φ a w hrel
 have hwant : Region.wanted o (yielded all a.tmps) = true := by rw [pc_wanted hrel (by rw [hpc]), hpc]
 refine wpList_step fun K' hK => ?_
 rw [if_pos hwant]
 have hfr := opd_rep hrel fo
 rw [hf] at hfr
 have hcv : a.eval fo = .func (.func f) #[] #[] := by
  generalize a.eval fo = u at hfr
  cases hfr with | func _ _ vs h1 h2 =>
   have : vs = #[] := by
    apply Array.eq_empty_of_size_eq_zero; simpa using h1.symm
   rw [this]
 have hrun : (execOp a.eval o).run P w = .ok (.enter f #[a.eval x]) w := by
  simp only [execOp, hop, resolve, hcv, Deferred.ofValue, Sem.run_bind, Sem.run_pure, Result.andThen_ok, invoke, Array.empty_append, hcall]
  simp
 unfold Oper.wp
 rw [hrun]
 refine (hc F φ w _ hrel.heap hrel.below.size (opd_rep hrel x)).mono fun e w' ⟨v', φ', he, k0, k1, k2, k3⟩ => ?_
 subst he
 refine hK _ _ ?_
 have := Rel.put (st := { st with h := h' }) (d := d) (x := r) (v := v') ⟨k1, hrel.size, fun i => (hrel.slots i).le (FLe.refl F) k0, hrel.defers, hrel.below.trans k3⟩ hd k2
 rw [hdst]
 exact h _ rfl F _ _ w' (this.keep K)
section
variable {P : Program} {w0 : World} {st : St} {all : Array Oper} {Q : Exit → St → Prop} {rest : List Oper} {o : Oper} {fo x : Operand} {tys : Array TypeId} {d id : Nat} {et : TypeId} {xs : List Int} {ρ : Go.Shelf.Ren}
end
end Go.AX
