/-
  A loop of so many rounds, one by one; a call that may give back what was handed in, in a state without blocks of its own. Conditions: none.
-/
import Derived.Test.YtabhcjpjoknihaaAxOp
set_option linter.unusedSimpArgs false
set_option linter.unusedVariables false
namespace Go.AX
open Go Go.RowKit
section
variable {P : Program} {T : Tab} {w0 : World}
/-- What is still to show of a loop of so many rounds at most. -/
def unr (P : Program) (w0 : World) (c : Code) (Q : Exit → St → Prop) : Nat → St → Prop
  | 0, _ => False
  | n + 1, st => AWP P w0 c (thenA (unr P w0 c Q n) Q) st
theorem AWP_unroll (n : Nat) {c : Code} {Q : Exit → St → Prop} {st : St} (h : unr P w0 c Q n st) : AWP P w0 (.loop c) Q st := by
  refine AWP_loop (fun n st => unr P w0 c Q n st) n h fun n st hI => ?_
  cases n with
  | zero => exact hI.elim
  | succ n =>
    refine AWP.mono (show AWP P w0 c (thenA (unr P w0 c Q n) Q) st from hI) fun e st' hq => ?_
    cases e with
    | normal => exact ⟨n, Nat.lt_succ_self n, hq⟩
    | _ => exact hq
theorem unr_go {n : Nat} {c : Code} {Q : Exit → St → Prop} {st : St} (h : AWP P w0 c (thenA (unr P w0 c Q n) Q) st) : unr P w0 c Q (n + 1) st := h
theorem thenA_n {R : St → Prop} {Q : Exit → St → Prop} {st : St} (h : R st) : thenA R Q .normal st := h
theorem thenA_x {R : St → Prop} {Q : Exit → St → Prop} {st : St} {id : Nat} (h : Q (.exit id) st) : thenA R Q (.exit id) st := h
theorem thenA_r {R : St → Prop} {Q : Exit → St → Prop} {st : St} (h : Q .ret st) : thenA R Q .ret st := h

theorem atom_any {F : Fz} {φ φ' : Phi} {x : AVal} {v : Value} (hx : atomB x = true) (hr : RepV F φ x v) : RepV F φ' x v := by
  have key : RepV F φ0 x v := by
    cases x <;> simp only [atomB, Bool.false_eq_true] at hx
    case ints => cases hr with | ints _ _ _ hr => cases hr with | imm _ _ A n c u h1 h2 h3 h4 h5 h6 h7 => exact .ints _ _ _ (RepV.imm (φ := φ0) _ _ A n c u h1 h2 h3 h4 h5 h6 h7)
    case fn => cases hr with | fn _ _ _ _ hr => cases hr with | imm _ _ A n c u h1 h2 h3 h4 h5 h6 h7 => exact .fn _ _ _ _ (RepV.imm (φ := φ0) _ _ A n c u h1 h2 h3 h4 h5 h6 h7)
    case intp => cases hr with | intp _ _ _ hr => cases hr with | immp _ ad u h1 h2 => exact .intp _ _ _ (RepV.immp (φ := φ0) _ ad u h1 h2)
    case imm => cases hr with | imm _ _ A n c u h1 h2 h3 h4 h5 h6 h7 => exact RepV.imm (φ := φ0) _ _ A n c u h1 h2 h3 h4 h5 h6 h7
    case immp => cases hr with | immp _ ad u h1 h2 => exact RepV.immp (φ := φ0) _ ad u h1 h2
    all_goals (cases hr; constructor <;> assumption)
  exact key.le (FLe.refl F) (PLe0 φ')
theorem tup_any {F : Fz} {φ φ' : Phi} {l : List AVal} {v : Value} (hx : l.all atomB = true) (hr : RepV F φ (.tup l) v) : RepV F φ' (.tup l) v := by
  cases hr with
  | tup _ vs h1 h2 => exact .tup _ _ h1 fun i x v a b => atom_any (List.all_eq_true.1 hx x (List.mem_of_getElem? a)) (h2 i x v a b)

theorem AWPL_callF (K : List Nat) {st : St} {all : Array Oper} {Q : Exit → St → Prop} {rest : List Oper} {o : Oper} {fo : Operand} {args : Array Operand} {tys : Array TypeId} {d f : Nat} {caps ys l : List AVal}
    (hP : Pure P f ys (.tup l) []) (hop : o.op = .call ⟨.value fo, args, tys⟩) (hdst : o.dst = some d) (hpc : pcOf all st.s o.guard = (true, true)) (hf : opd st.s fo = .func f caps) (hcall : ∀ args w, (callFunc f args).run P w = .ok (.enter f args) w)
    (hargs : ArgsOk st.h ((args.toList.map fun x => sv (opd st.s x)) ++ caps) ys) (hsc : (args.toList.all fun x => sc true (opd st.s x)) = true) (hd : d < st.n) (hl : l.all atomB = true) (hno : st.h.all (fun b => b.isNone) = true)
    (h : ∀ st', (⟨st.n, keepL K (putL st.s d (.tup l)), st.h⟩ : St) = st' → AWPL P w0 all Q rest st') : AWPL P w0 all Q (o :: rest) st := by
  intro F φ a w hrel
  have hwant : Region.wanted o (yielded all a.tmps) = true := by rw [pc_wanted hrel (by rw [hpc]), hpc]
  refine wpList_step fun K' hK => ?_
  rw [if_pos hwant]
  have hfr := opd_rep hrel fo
  rw [hf] at hfr
  obtain ⟨cv, hcv, hcl, hcr⟩ : ∃ cv : Array Value, a.eval fo = .func (.func f) #[] cv ∧ caps.length = cv.size ∧ ∀ (i : Nat) (x : AVal) (v : Value), caps[i]? = some x → cv[i]? = some v → RepV F φ x v := by
    generalize a.eval fo = u at hfr
    cases hfr with | func _ _ vs h1 h2 => exact ⟨vs, rfl, h1, h2⟩
  have hrun : (execOp a.eval o).run P w = .ok (.enter f (args.map a.eval ++ cv)) w := by
    simp only [execOp, hop, resolve, hcv, Deferred.ofValue, Sem.run_bind, Sem.run_pure, Result.andThen_ok, invoke, Array.empty_append, hcall]
  unfold Oper.wp
  rw [hrun]
  obtain ⟨g1, g2⟩ := hargs.get
  have hlen : ys.length = (args.map a.eval ++ cv).size := by
    rw [← g1]; simp [hcl]
  have hc := hP w (addOwn F φ st.h w) (args.map a.eval ++ cv) (addOwn_agree hrel.heap) hlen (fun i y v hy hv => by
    have hi : i < ((args.toList.map fun x => sv (opd st.s x)) ++ caps).length := by
      rw [g1]
      rcases Nat.lt_or_ge i ys.length with c | c
      · exact c
      · rw [List.getElem?_eq_none c] at hy; cases hy
    have hx := List.getElem?_eq_getElem hi
    refine argOk_rep hrel.heap (g2 i _ y hx hy) ?_
    rw [List.getElem?_append] at hx
    rw [Array.getElem?_append] at hv
    simp only [List.length_map, Array.length_toList] at hx
    simp only [Array.size_map] at hv
    split at hx
    · rename_i hlt
      rw [if_pos hlt] at hv
      rw [List.getElem?_map, Array.getElem?_toList] at hx
      rw [Array.getElem?_map] at hv
      cases hq : args[i]? with
      | none => rw [hq] at hv; cases hv
      | some q =>
        rw [hq] at hx hv
        simp only [Option.map_some, Option.some.injEq] at hx hv
        rw [← hx, ← hv]
        exact ev_rep hrel (List.all_eq_true.1 hsc q (Array.mem_toList_iff.2 (Array.mem_of_getElem? hq)))
    · rename_i hge
      rw [if_neg hge] at hv
      exact hcr _ _ v hx hv)
  refine hc.mono fun e w' ⟨v, F', φ', he, hF, hH', hv, hb⟩ => ?_
  subst he
  refine hK _ _ ?_
  have hFF : FLe F F' := FLe.trans (fun b o h => by simp [addOwn, h]) hF
  have hno' : ∀ (id : Nat) (b : Blk), st.h[id]? = some (some b) → False := fun id b hib => by
    have := List.all_eq_true.1 hno _ (List.mem_of_getElem? hib)
    simp at this
  have hrh : RelH F' φ w0.heap.size st.h w' := ⟨hH'.agree, hrel.heap.unused, fun id b hib => (hno' id b hib).elim, fun i j bi bj g hi => (hno' i bi hi).elim, hH'.good, fun j i l hj => (hno' j _ hj).elim⟩
  have hres : Rel F' φ w0 st a w' := ⟨hrh, hrel.size, fun i => (hrel.slots i).le hFF (PLe.refl φ), hrel.defers, hrel.below.trans (hb.mono hrel.below.size)⟩
  rw [hdst]
  exact wpList_monoQ (fun e a' w' hq => hq.le hFF) (h _ rfl F' φ _ w' ((hres.put hd (tup_any hl hv)).keep K))
end
end Go.AX
namespace Go.AX
open Go
/-- What may be handed in as it is. -/
def selfOk : AVal → Bool
  | .func _ caps => caps.all atomB
  | x => atomB x
theorem selfOk_arg {H : List (Option Blk)} {x : AVal} (h : selfOk x = true) : ArgOk H x x := by
  cases x
  case func f caps =>
    refine .func f caps caps rfl fun i x y hx hy => ?_
    rw [hx] at hy
    injection hy with hy
    subst hy
    exact .atom _ (List.all_eq_true.1 h x (List.mem_of_getElem? hx))
  all_goals exact .atom _ h
theorem ArgOk.ownSelf {H : List (Option Blk)} {id n sz : Nat} {et : TypeId} {es : List (List AVal)} (hb : getB H id = some (.gen et sz es)) (hn : es.length = n) (ho : (es.all fun e => e.all selfOk) = true) : ArgOk H (.own id n) (.imm sz es) := by
  refine .ownM id n et sz es es hb (by omega) hn (fun i e f he hf => ?_) (fun i e f j x y he hf hx hy => ?_)
  · rw [he] at hf; injection hf with hf; rw [hf]
  · rw [he] at hf; injection hf with hf; subst hf
    rw [hx] at hy; injection hy with hy; subst hy
    exact selfOk_arg (List.all_eq_true.1 (List.all_eq_true.1 ho e (List.mem_of_getElem? he)) x (List.mem_of_getElem? hx))
end Go.AX
