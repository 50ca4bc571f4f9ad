/-
 Calls whose answers hold lists that are written no more, made of new memory or of what was handed in frozen. Conditions: none.
-/
import Derived.Test.YtlpikingpnenkaaAxFj
set_option linter.unusedSimpArgs false
set_option linter.unusedVariables false
namespace Go.AX
open Go Go.RowKit
variable {P : Program} {T : Tab} {F : Fz} {φ : Phi} {w0 w : World} {st : St}
/-- A block whose cells are the answer's own or frozen. -/
def nAB : Blk → Bool
 | .gen _ _ es => es.all fun e => e.all fun y => nI0 y || atomB y
 | b => nIB b
theorem shA_rep {F' : Fz} {φ φ' : Phi} {k : Nat} {x : AVal} {v : Value} (hx : (nI0 x || atomB x) = true) (h : RepV F' φ' x v) : RepV F' (phiS φ φ' k) (sh0 k x) v := by
 cases q : nI0 x with
 | true => exact sh0_rep q h
 | false =>
  rw [q, Bool.false_or] at hx
  have e : sh0 k x = x := by cases x <;> simp only [atomB, Bool.false_eq_true] at hx <;> rfl
  rw [e]
  exact atom_any hx h
theorem RelH.backN {base : Nat} {H : List (Option Blk)} {H' : List Blk} (h : RelH F φ base H w) {F' : Fz} {φ' : Phi} {w' : World} (h' : RelH F' φ' w.heap.size (H'.map some) w') (hb : Below w.heap.size w w') (hbase : base ≤ w.heap.size) (hFN : FLn w F F') (hn : ∀ b ∈ H', nAB b = true) :
  RelH F' (phiS φ φ' H.length) base (H ++ H'.map fun b => some (shB H.length b)) w' ∧ PLe φ (phiS φ φ' H.length) := by
 have hle : PLe φ (phiS φ φ' H.length) := fun id hu => by
  unfold phiS
  rcases Nat.lt_or_ge id H.length with q | q
  ·rw [if_pos q]
  ·exact absurd (h.unused id q) hu
 have hN : ∀ g, F g = none → g < w.heap.size → F' g = none := fun g hg hlt => by
  cases e : F' g with
  | none => rfl
  | some o =>
   rcases hFN.2 g o e with q | q
   ·rw [hg] at q; cases q
   ·omega
 have hF : ∀ g, w.heap.size ≤ g → F g = none := fun g hg => by
  cases hq : F g with
  | none => rfl
  | some o => have := h.lt hq; omega
 have new : ∀ (id : Nat) (b : Blk), (H ++ H'.map fun b => some (shB H.length b))[id]? = some (some b) → (id < H.length ∧ H[id]? = some (some b)) ∨ (H.length ≤ id ∧ ∃ b', (H'.map some)[id - H.length]? = some (some b') ∧ b = shB H.length b' ∧ b' ∈ H') := by
  intro id b hb
  rw [List.getElem?_append] at hb
  split at hb
  ·rename_i q; exact .inl ⟨q, hb⟩
  ·rename_i q
   rw [List.getElem?_map] at hb
   cases hq : H'[id - H.length]? with
   | none => rw [hq] at hb; cases hb
   | some b' =>
    rw [hq] at hb; simp at hb; subst hb
    exact .inr ⟨by omega, b', by rw [List.getElem?_map, hq]; rfl, rfl, List.mem_of_getElem? hq⟩
 refine ⟨⟨h'.agree, fun id hid => ?_, fun id b hbk => ?_, fun i j bi bj g hi hj h1 h2 => ?_, h'.good, fun j i l hj => by
  have hlt : ∀ {m l}, φ m = l → l ≠ .unused → m < H.length := fun {m l} e ne => by
   rcases Nat.lt_or_ge m H.length with c | c
   ·exact c
   ·rw [h.unused m c] at e; exact absurd e.symm ne
  rw [List.getElem?_append] at hj
  split at hj
  ·have := h.pins j i l hj
   exact ⟨by unfold phiS; rw [if_pos (hlt this.1 this.2)]; exact this.1, this.2⟩
  ·rw [List.getElem?_map] at hj
   cases hq : H'[j - H.length]? with
   | none => rw [hq] at hj; cases hj
   | some b' => rw [hq] at hj; simp only [Option.map_some, Option.some.injEq] at hj; cases b' <;> simp [shB] at hj⟩, hle⟩
 ·simp only [List.length_append, List.length_map] at hid
  unfold phiS
  rw [if_neg (by omega)]
  exact h'.unused _ (by simp; omega)
 ·rcases new id b hbk with ⟨q1, q2⟩ | ⟨q1, b', q2, rfl, q3⟩
  ·exact (h.blk id b q2).le hFN.1 hle (fun g _ hg hlt => hN g hg hlt) fun x hx => hb.block x (h.occ_lt q2 hx)
  ·obtain ⟨e1, e2, e3⟩ := shB_es H.length b'
   have hph : phiS φ φ' H.length id = φ' (id - H.length) := by unfold phiS; rw [if_neg (by omega)]
   rcases h'.blk _ b' q2 with ⟨p1, p2⟩ | ⟨g, cap, cur, p1, p2, p3, p4, p5, p6, p7, p8⟩ | hX
   rotate_left 2
   ·refine .inr (.inr ?_)
    have hx : BlkX F' (phiS φ φ' H.length) base w' id b' := hX.le hph (fun x hx => ⟨by have := (hX.occ hx).1; omega, (hX.occ hx).2.1⟩) fun x _ => rfl
    cases b' <;> first | exact hx | exact False.elim hX
   ·exact .inl ⟨by rw [hph]; exact p1, by rw [e1, p2]; rfl⟩
   ·refine .inr (.inl ⟨g, cap, cur, by rw [hph, e2, e3]; exact p1, by omega, p3, by rw [e3]; exact p4, by rw [e1]; simpa using p5, p6, by rw [e2]; exact p7, fun i e he => ?_⟩)
    rw [e1, List.getElem?_map] at he
    cases hq : b'.es[i]? with
    | none => rw [hq] at he; cases he
    | some e' =>
     rw [hq] at he; simp at he; subst he
     refine ⟨by rw [e2]; simpa using (p8 i e' hq).1, fun j x hx => ?_⟩
     rw [List.getElem?_map] at hx
     cases hq2 : e'[j]? with
     | none => rw [hq2] at hx; cases hx
     | some y =>
      rw [hq2] at hx; simp at hx; subst hx
      obtain ⟨u, u1, u2, u3⟩ := (p8 i e' hq).2 j y hq2
      have hnI : (nI0 y || atomB y) = true := by
       have := hn b' q3
       cases b' with
       | ints et k xs =>
        simp only [Blk.es, intEs, List.getElem?_map, Option.map_eq_some_iff] at hq
        obtain ⟨n, _, rfl⟩ := hq
        match j, hq2 with
        | 0, hq2 => simp at hq2; subst hq2; rfl
       | pin _ _ => simp [nAB, nIB] at this
       | xo _ =>
        match i, hq with
        | 0, hq => simp [Blk.es] at hq; subst hq; simp at hq2
       | rows _ _ _ =>
        match i, hq with
        | 0, hq => simp [Blk.es] at hq; subst hq; simp at hq2
       | outs et rid n f len =>
        simp only [Blk.es, fnEs, List.getElem?_map, Option.map_eq_some_iff] at hq
        obtain ⟨m, _, rfl⟩ := hq
        match j, hq2 with
        | 0, hq2 =>
         simp only [outE, List.getElem?_cons_zero, Option.some.injEq] at hq2
         subst hq2
         split <;> rfl
       | gen et sz es =>
        have h1 := List.all_eq_true.1 this e' (List.mem_of_getElem? hq)
        exact List.all_eq_true.1 h1 y (List.mem_of_getElem? hq2)
      exact ⟨u, by rw [e2]; exact u1, shA_rep hnI u2, u3⟩
 ·rcases new i bi hi with ⟨q1, q2⟩ | ⟨q1, b1, q2, _, _⟩ <;> rcases new j bj hj with ⟨r1, r2⟩ | ⟨r1, b2, r2, _, _⟩
  ·unfold phiS at h1 h2; rw [if_pos q1] at h1; rw [if_pos r1] at h2; exact h.sep i j _ _ g q2 r2 h1 h2
  ·unfold phiS at h1 h2; rw [if_pos q1] at h1; rw [if_neg (by omega)] at h2
   have a1 := h.occ_lt q2 h1
   have a2 := ((h'.blk _ b2 r2).occ h2).1
   omega
  ·unfold phiS at h1 h2; rw [if_neg (by omega)] at h1; rw [if_pos r1] at h2
   have a1 := h.occ_lt r2 h2
   have a2 := ((h'.blk _ b1 q2).occ h1).1
   omega
  ·unfold phiS at h1 h2; rw [if_neg (by omega)] at h1; rw [if_neg (by omega)] at h2
   have := h'.sep _ _ b1 b2 g q2 r2 h1 h2
   omega
def atomA : AVal → Bool
 | .agg l => l.all atomB
 | x => atomB x
theorem atomA_any {F : Fz} {φ φ' : Phi} {x : AVal} {v : Value} (hx : atomA x = true) (h : RepV F φ x v) : RepV F φ' x v := by
 cases x with
 | agg l => exact agg_any hx h
 | _ => exact atom_any hx h
theorem AWPL_callI0 {all : Array Oper} {Q : Exit → St → Prop} {rest : List Oper} {o : Oper} {fo : Operand} {args : Array Operand} {tys : Array TypeId} {d f : Nat} {caps ys : List AVal} {r : AVal} {H : List Blk}
  (hop : o.op = .call ⟨.value fo, args, tys⟩) (hdst : o.dst = some d) (hpc : pcOf all st.s o.guard = (true, true)) (hf : opd st.s fo = .func f caps) (hcall : ∀ args w, (callFunc f args).run P w = .ok (.enter f args) w)
  (hP : Pure P f ys r H) (hargs : (args.toList.map fun x => sv (opd st.s x)) ++ caps = ys) (hat : ys.all atomA = true) (hsc : (args.toList.all fun x => sc true (opd st.s x)) = true) (hd : d < st.n) (hr : nI r = true) (hH : H.all nAB = true)
  (h : AWPL P w0 all Q rest { st with s := putL st.s d (sh st.h.length r), h := st.h ++ H.map fun b => some (shB st.h.length b) }) : AWPL P w0 all Q (o :: rest) st := by
 intro F φ a w hrel
 have hwant : Region.wanted o (yielded all a.tmps) = true := by rw [pc_wanted hrel (by rw [hpc]), hpc]
 refine wpList_step fun K hK => ?_
 rw [if_pos hwant]
 have hfr := opd_rep hrel fo
 rw [hf] at hfr
 obtain ⟨cv, hcv, hcl, hcr⟩ : ∃ cv : Array Value, a.eval fo = .func (.func f) #[] cv ∧ caps.length = cv.size ∧ ∀ (i : Nat) (x : AVal) (v : Value), caps[i]? = some x → cv[i]? = some v → RepV F φ x v := by
  generalize a.eval fo = u at hfr
  cases hfr with | func _ _ vs h1 h2 => exact ⟨vs, rfl, h1, h2⟩
 have hrun : (execOp a.eval o).run P w = .ok (.enter f (args.map a.eval ++ cv)) w := by
  simp only [execOp, hop, resolve, hcv, Deferred.ofValue, Sem.run_bind, Sem.run_pure, Result.andThen_ok, invoke, Array.empty_append, hcall]
 unfold Oper.wp
 rw [hrun]
 have g1 := congrArg List.length hargs
 have hlen : ys.length = (args.map a.eval ++ cv).size := by
  rw [← g1]; simp [hcl]
 have hc := hP w F (args.map a.eval ++ cv) ⟨hrel.heap.agree, hrel.heap.good⟩ hlen (fun i y v hy hv => by
  have hi : i < ((args.toList.map fun x => sv (opd st.s x)) ++ caps).length := by
   rw [g1]
   rcases Nat.lt_or_ge i ys.length with c | c
   ·exact c
   ·rw [List.getElem?_eq_none c] at hy; cases hy
  have hx := List.getElem?_eq_getElem hi
  refine atomA_any (φ := φ) (List.all_eq_true.1 hat y (List.mem_of_getElem? hy)) ?_
  rw [← hargs] at hy
  rw [hy] at hx
  have hx : ((args.toList.map fun x => sv (opd st.s x)) ++ caps)[i]? = some y := hy
  rw [List.getElem?_append] at hx
  rw [Array.getElem?_append] at hv
  simp only [List.length_map, Array.length_toList] at hx
  simp only [Array.size_map] at hv
  split at hx
  ·rename_i hlt
   rw [if_pos hlt] at hv
   rw [List.getElem?_map, Array.getElem?_toList] at hx
   rw [Array.getElem?_map] at hv
   cases hq : args[i]? with
   | none => rw [hq] at hv; cases hv
   | some q =>
    rw [hq] at hx hv
    simp only [Option.map_some, Option.some.injEq] at hx hv
    rw [← hx, ← hv]
    exact ev_rep hrel (List.all_eq_true.1 hsc q (Array.mem_toList_iff.2 (Array.mem_of_getElem? hq)))
  ·rename_i hge
   rw [if_neg hge] at hv
   exact hcr _ _ v hx hv)
 refine hc.mono fun e w' ⟨v, F', φ', he, hF, hH', hv, hb⟩ => ?_
 subst he
 refine hK _ _ ?_
 obtain ⟨k1, k2⟩ := hrel.heap.backN hH' hb hrel.below.size hF (List.all_eq_true.1 hH)
 have := Rel.put (st := { st with h := st.h ++ H.map fun b => some (shB st.h.length b) }) (d := d) (x := sh st.h.length r) (v := v) ⟨k1, hrel.size, fun i => (hrel.slots i).le hF.1 k2, hrel.defers, hrel.below.trans (hb.mono hrel.below.size)⟩ hd (sh_rep hr hv)
 rw [hdst]
 have hFN : FLn w0 F F' := (FLn.refl F).after hF hrel.below.size
 exact wpList_monoQ (fun e a' w' hq => hq.le hFN) (h F' _ _ w' this)
theorem AWPL_callI (K : List Nat) {all : Array Oper} {Q : Exit → St → Prop} {rest : List Oper} {o : Oper} {fo : Operand} {args : Array Operand} {tys : Array TypeId} {d f : Nat} {caps ys : List AVal} {r : AVal} {H : List Blk}
  (hP : Pure P f ys r H) (hop : o.op = .call ⟨.value fo, args, tys⟩) (hdst : o.dst = some d) (hpc : pcOf all st.s o.guard = (true, true)) (hf : opd st.s fo = .func f caps) (hcall : ∀ args w, (callFunc f args).run P w = .ok (.enter f args) w)
  (hargs : (args.toList.map fun x => sv (opd st.s x)) ++ caps = ys) (hat : ys.all atomA = true) (hsc : (args.toList.all fun x => sc true (opd st.s x)) = true) (hd : d < st.n) (hr : nI r = true) (hH : H.all nAB = true)
  (h : ∀ st', (⟨st.n, keepL K (putL st.s d (sh st.h.length r)), st.h ++ H.map fun b => some (shB st.h.length b)⟩ : St) = st' → AWPL P w0 all Q rest st') : AWPL P w0 all Q (o :: rest) st :=
 AWPL_callI0 hop hdst hpc hf hcall hP hargs hat hsc hd hr hH fun F φ a w hrel => h _ rfl F φ a w (hrel.keep K)
end Go.AX
