/-
 Maps of the call's own whose keys are so many numbers, and whose elements are numbers. Conditions: none.
-/
import Derived.Maps.Own
import Derived.Maps.OwnOps
import Derived.Maps.Views
import Derived.Carry
import Derived.DeepKeys4
import Derived.Test.YtlpikingpnenkaaAxGc
import Derived.Test.YtlpikingpnenkaaAxOp
set_option linter.unusedSimpArgs false
set_option linter.unusedVariables false
namespace Go.AX
open Go Go.RowKit
open Go.Maps (Keyed)
open Go.WideElems (Fit rd rg pl rd_val elemAt)
section
variable {P : Program} {w0 : World} {F : Fz} {φ : Phi}
/-- A call that changes blocks of its caller's, what is handed in being named anew. -/
theorem AWPL_gM (K' : List Nat) (js : List Nat) (l : List AVal) (H2 : List (Option Blk)) {st : St} {all : Array Oper} {Q : Exit → St → Prop} {rest : List Oper} {o : Oper} {fo : Operand} {args : Array Operand} {tys : Array TypeId} {d f : Nat} {caps : List AVal} {B B' : List Blk} {K : Nat} {r : AVal}
  (hP : InG P f B K (fun _ => l) r B') (hop : o.op = .call ⟨.value fo, args, tys⟩) (hdst : o.dst = some d) (hpc : pcOf all st.s o.guard = (true, true)) (hf : opd st.s fo = .func f caps) (hcall : ∀ args w, (callFunc f args).run P w = .ok (.enter f args) w)
  (hnd : js.Nodup) (hb : AtG st.h js js B) (hargs : ((args.toList.map fun x => sv (opd st.s x)) ++ caps) = l.map (ren js)) (hsc : (args.toList.all fun x => sc true (opd st.s x)) = true) (hd : d < st.n) (hr : flatT r = true) (hB' : B'.all nIB = true) (hlen : st.h.length ≤ bigId) (hH2 : plG st.h js K B' = H2)
  (h : ∀ st', (⟨st.n, keepL K' (putL st.s d r), H2⟩ : St) = st' → AWPL P w0 all Q rest st') : AWPL P w0 all Q (o :: rest) st := by
 intro F φ a w hrel
 have hwant : Region.wanted o (yielded all a.tmps) = true := by rw [pc_wanted hrel (by rw [hpc]), hpc]
 refine wpList_step fun K2 hK => ?_
 rw [if_pos hwant]
 have hfr := opd_rep hrel fo
 rw [hf] at hfr
 obtain ⟨cv, hcv, hcl, hcr⟩ : ∃ cv : Array Value, a.eval fo = .func (.func f) #[] cv ∧ caps.length = cv.size ∧ ∀ (i : Nat) (x : AVal) (v : Value), caps[i]? = some x → cv[i]? = some v → RepV F φ x v := by
  generalize a.eval fo = u at hfr
  cases hfr with | func _ _ vs h1 h2 => exact ⟨vs, rfl, h1, h2⟩
 have hrun : (execOp a.eval o).run P w = .ok (.enter f (args.map a.eval ++ cv)) w := by
  simp only [execOp, hop, resolve, hcv, Deferred.ofValue, Sem.run_bind, Sem.run_pure, Result.andThen_ok, invoke, Array.empty_append, hcall]
 unfold Oper.wp
 rw [hrun]
 obtain ⟨hKB, hKB', hP⟩ := hP
 have hjl := hb.len
 have hkill := hrel.heap.killL js
 have hle : FLe F (addOwn F φ (killL st.h js) w) := fun b o h => by simp [addOwn, h]
 have jsAt : ∀ k, k < B.length → ∃ j, js[k]? = some j := fun k hk => ⟨_, List.getElem?_eq_getElem (by omega)⟩
 have hjlt : ∀ j, j ∈ js → j < st.h.length := fun j hj => by
  obtain ⟨k, hk⟩ := List.getElem?_of_mem hj
  obtain ⟨p, _, hb1⟩ := hb.get k j hk
  exact Blk.ext_lt hb1
 have hren : RelH F (phiR φ js) w0.heap.size (B.map some) w := hrel.heap.ren hlen hnd (by simp [hjl]) fun i b hib => by
  rw [List.getElem?_map] at hib
  cases hq : B[i]? with
  | none => rw [hq] at hib; cases hib
  | some b0 =>
   rw [hq] at hib
   simp only [Option.map_some, Option.some.injEq] at hib
   subst hib
   obtain ⟨j, hj⟩ := jsAt i (List.getElem?_eq_some_iff.1 hq).1
   obtain ⟨b1, hb1, hH⟩ := hb.get i j hj
   rw [hq] at hb1; cases hb1
   exact ⟨j, hj, hH⟩
 have hphi : ∀ k j, js[k]? = some j → phiR φ js k = φ j := fun k j hj => by simp only [phiR, hj]
 have hcell : RelH (addOwn F φ (killL st.h js) w) (phiR φ js) w0.heap.size (B.map some) w := by
  refine ⟨(addOwn_agree hkill).1, hren.unused, fun k b hk => ?_, hren.sep, (addOwn_agree hkill).2, hren.pins⟩
  refine (hren.blk k b hk).leO hle (PLe.refl _) (fun g ho _ hg _ => ?_) fun _ _ => rfl
  unfold addOwn
  rw [hg]
  simp only
  refine if_neg ?_
  rintro ⟨id', b', q1, q2⟩
  have hnm := killL_none js _ q1
  rw [killL_not js _ hnm] at q1
  have hkB : k < B.length := by
   have := (List.getElem?_eq_some_iff.1 hk).1
   simpa using this
  obtain ⟨j, hj⟩ := jsAt k hkB
  obtain ⟨b1, _, hbj⟩ := hb.get k j hj
  rw [hphi k j hj] at ho
  have := hrel.heap.sep id' j _ _ _ q1 hbj q2 ho
  rw [this] at hnm
  exact hnm (List.mem_of_getElem? hj)
 have hbig : φ bigId = .unused := hrel.heap.unused _ hlen
 have g1 : ((args.toList.map fun x => sv (opd st.s x)) ++ caps).length = l.length := by rw [hargs, List.length_map]
 have hc := hP w0 w (addOwn F φ (killL st.h js) w) (phiR φ js) (args.map a.eval ++ cv) hrel.below hcell (by rw [← g1]; simp [hcl]) (fun i y v hy hv => by
  have hx : ((args.toList.map fun x => sv (opd st.s x)) ++ caps)[i]? = some (ren js y) := by rw [hargs, List.getElem?_map, hy]; rfl
  refine (ren_rep hbig (?_ : RepV F φ (ren js y) v)).le hle (PLe.refl _)
  rw [List.getElem?_append] at hx
  rw [Array.getElem?_append] at hv
  simp only [List.length_map, Array.length_toList] at hx
  simp only [Array.size_map] at hv
  split at hx
  ·rename_i hlt
   rw [if_pos hlt] at hv
   rw [List.getElem?_map, Array.getElem?_toList] at hx
   rw [Array.getElem?_map] at hv
   cases hq : args[i]? with
   | none => rw [hq] at hv; cases hv
   | some q =>
    rw [hq] at hx hv
    simp only [Option.map_some, Option.some.injEq] at hx hv
    rw [← hx, ← hv]
    exact ev_rep hrel (List.all_eq_true.1 hsc q (Array.mem_toList_iff.2 (Array.mem_of_getElem? hq)))
  ·rename_i hge
   rw [if_neg hge] at hv
   exact hcr _ _ v hx hv)
 refine hc.mono fun e w' ⟨v, F', φ', he, hFn0, hH', hv, hpin', hbw⟩ => ?_
 subst he
 have hF := hFn0.1
 refine hK _ _ ?_
 have hFF : FLe F F' := FLe.trans hle hF
 have hFn : ∀ g, F' g = none → F g = none := fun g hg => by
  cases hq : F g with
  | none => rfl
  | some o => have := hFF g o hq; rw [hg] at this; cases this
 have kept : ∀ {id : Nat} {b : Blk} {g : Nat}, id ∉ js → st.h[id]? = some (some b) → (φ id).occ g → w'.heap[g]? = w.heap[g]? ∧ F' g ≠ none := by
  intro id b g hn hb1 hg
  have h0 : (killL st.h js)[id]? = some (some b) := by rw [killL_not js _ hn]; exact hb1
  have h1 := addOwn_occ hkill h0 hg
  have hlt := hkill.occ_lt h0 hg
  have h2 : addOwn F φ (killL st.h js) w g = some w.heap[g] := by rw [h1]; exact Array.getElem?_eq_getElem hlt
  exact ⟨by rw [hH'.agree g _ (hF g _ h2), Array.getElem?_eq_getElem hlt], by rw [hF g _ h2]; simp⟩
 obtain ⟨φ2, hφ2⟩ : ∃ φ2 : Phi, φ2 = fun id => if id < st.h.length then φ id else φ' (K + (id - st.h.length)) := ⟨_, rfl⟩
 have hPL : PLe φ φ2 := fun id hu => by
  rw [hφ2]
  refine if_pos ?_
  rcases Nat.lt_or_ge id st.h.length with c | c
  ·exact c
  ·exact absurd (hrel.heap.unused id c) hu
 have hKj : K ≤ js.length := by omega
 have hφσ : ∀ i id, i < B'.length → (sgm st.h.length js K B'.length)[i]? = some id → φ2 id = φ' i := fun i id hi hid => by
  rcases Nat.lt_or_ge i K with c | c
  ·rw [sgm_lo hKj c] at hid
   have hlt := hjlt id (List.mem_of_getElem? hid)
   rw [hφ2]
   simp only [if_pos hlt]
   rw [hpin' i c, hphi i id hid]
  ·rw [sgm_hi hKj c hi] at hid
   injection hid with hid
   rw [hφ2]
   simp only
   rw [if_neg (by omega)]
   congr 1; omega
 have hσ : ∀ i, φ' i ≠ .unused → ∃ s, (sgm st.h.length js K B'.length)[i]? = some s ∧ φ2 s = φ' i := fun i hu => by
  have hi : i < B'.length := by
   rcases Nat.lt_or_ge i B'.length with c | c
   ·exact c
   ·exact absurd (hH'.unused i (by simpa using c)) hu
  have hl : i < (sgm st.h.length js K B'.length).length := by rw [sgm_len hKj hKB']; exact hi
  exact ⟨_, List.getElem?_eq_getElem hl, hφσ i _ hi (List.getElem?_eq_getElem hl)⟩
 have hB'at : ∀ i b', B'[i]? = some b' → (B'.map some)[i]? = some (some b') := fun i b' hq => by rw [List.getElem?_map, hq]; rfl
 have hnew : RelH F φ2 w0.heap.size (plG st.h js K B') w' := by
  refine ⟨fun b o hbo => hH'.agree b o (hFF b o hbo), fun id hid => ?_, fun id b hib => ?_, fun i j bi bj g hi hj h1 h2 => ?_, hrel.heap.good, fun j i l hj => ?_⟩
  ·rw [plG_len] at hid
   rw [hφ2]
   simp only
   rw [if_neg (by omega)]
   exact hH'.unused _ (by simp; omega)
  ·rcases plG_cls hnd hKj hKB' hjlt hib with ⟨q1, q2, q3⟩ | ⟨i, b', q1, rfl, q3⟩
   ·exact (hrel.heap.blk id b q3).le (FLe.refl F) hPL (fun _ _ hg _ => hg) fun x hx => (kept q1 q3 hx).1
   ·exact (hH'.blk i b' (hB'at i b' q1)).move hFn hσ (hφσ i id (List.getElem?_eq_some_iff.1 q1).1 q3) (List.all_eq_true.1 hB' b' (List.mem_of_getElem? q1))
  ·have old : ∀ {id : Nat}, id < st.h.length → φ2 id = φ id := fun {id} hid => by rw [hφ2]; exact if_pos hid
   rcases plG_cls hnd hKj hKB' hjlt hi with ⟨p1, p2, p3⟩ | ⟨i', bi', p1, rfl, p3⟩ <;> rcases plG_cls hnd hKj hKB' hjlt hj with ⟨q1, q2, q3⟩ | ⟨j', bj', q1, rfl, q3⟩
   ·rw [old p2] at h1; rw [old q2] at h2
    exact hrel.heap.sep i j _ _ _ p3 q3 h1 h2
   ·exfalso
    rw [old p2] at h1
    rw [hφσ j' j (List.getElem?_eq_some_iff.1 q1).1 q3] at h2
    have a1 := (kept p1 p3 h1).2
    exact a1 ((hH'.blk j' bj' (hB'at j' bj' q1)).occ h2).2.1
   ·exfalso
    rw [old q2] at h2
    rw [hφσ i' i (List.getElem?_eq_some_iff.1 p1).1 p3] at h1
    have a1 := (kept q1 q3 h2).2
    exact a1 ((hH'.blk i' bi' (hB'at i' bi' p1)).occ h1).2.1
   ·rw [hφσ i' i (List.getElem?_eq_some_iff.1 p1).1 p3] at h1
    rw [hφσ j' j (List.getElem?_eq_some_iff.1 q1).1 q3] at h2
    have := hH'.sep i' j' _ _ _ (hB'at i' bi' p1) (hB'at j' bj' q1) h1 h2
    subst this
    rw [p3] at q3
    injection q3
  ·rcases plG_cls hnd hKj hKB' hjlt hj with ⟨p1, p2, p3⟩ | ⟨i', b', p1, p2, p3⟩
   ·obtain ⟨a1, a2⟩ := hrel.heap.pins j i l p3
    exact ⟨by rw [hPL i (by rw [a1]; exact a2)]; exact a1, a2⟩
   ·have := List.all_eq_true.1 hB' b' (List.mem_of_getElem? p1)
    cases b' <;> simp [renB, nIB] at p2 this
 rw [hdst]
 subst hH2
 have hres : Rel F φ2 w0 ⟨st.n, st.s, plG st.h js K B'⟩ a w' := ⟨hnew, hrel.size, fun i => (hrel.slots i).le (FLe.refl F) hPL, hrel.defers, hbw⟩
 exact h _ rfl F φ2 _ w' ((hres.put hd (flatT_rep hr hv)).keep K')
end
end Go.AX
