/-
 The library's sort, at a row of the call's own: the row's first n integers stand in order behind the call. Conditions: the sort's text lies in the program as the kit's shelf has it.
-/
import Derived.Test.YtlpikingpnenkaaAxR
import Derived.Shelf.Sort.Plain
import Derived.Shelf.Slices.In.SortNone
import Derived.Shelf.Slices.CompactI
import Derived.Shelf.Slices.Clone
set_option linter.unusedSimpArgs false
set_option linter.unusedVariables false
namespace Go.AX
open Go Go.RowKit
variable {F : Fz} {φ : Phi} {w : World}
theorem heap_putRow (d : Array Int) (n g b : Nat) (os : Array Obj) (hb : b < w.heap.size) :
  (Go.Sort.grow (Go.Sort.putRow (Value.int .i64) (Go.Sort.ahead w n) g 0 d) os).heap[b]? = if b = g then (w.heap[g]?).map (Go.Sort.onCells (Go.Sort.putCells (Value.int .i64) 0 d)) else w.heap[b]? := by
 have hs : (Go.Sort.putRow (Value.int .i64) (Go.Sort.ahead w n) g 0 d).heap.size = w.heap.size := by simp
 show ((Go.Sort.putRow (Value.int .i64) (Go.Sort.ahead w n) g 0 d).heap ++ os)[b]? = _
 rw [Array.getElem?_append_left (by omega)]
 show (w.heap.modify g (Go.Sort.onCells (Go.Sort.putCells (Value.int .i64) 0 d)))[b]? = _
 rw [Array.getElem?_modify]
 by_cases c : b = g
 ·subst c; simp
 ·rw [if_neg c, if_neg fun q => c q.symm]
/-- The world behind the sort goes on as before but for the row. -/
theorem RelH.sorted {base : Nat} {H : List (Option Blk)} (h : RelH F φ base H w) {id g cap : Nat} {et : TypeId} {xs : List Int} (hb : H[id]? = some (some (.ints et .i64 xs))) (hφ : φ id = .at g cap 1 et) {ys : List Int} {n : Nat} (hl : ys.length ≤ xs.length) (hy : ∀ y, y ∈ ys → lo .i64 ≤ y ∧ y ≤ hi .i64) (os : Array Obj) :
  RelH F φ base (H.set id (some (.ints et .i64 (ys ++ xs.drop ys.length)))) (Go.Sort.grow (Go.Sort.putRow (Value.int .i64) (Go.Sort.ahead w n) g 0 ys.toArray) os) := by
 have hidl : id < H.length := by
  rcases Nat.lt_or_ge id H.length with c | c
  ·exact c
  ·rw [List.getElem?_eq_none c] at hb; cases hb
 rcases (h.blk id _ hb).nxC rfl with ⟨hn, _⟩ | ⟨g', cap', cur, e1, hbase, hF, hcur, hlen, hcap, hsz, hel⟩
 ·rw [hφ] at hn; cases hn
 rw [hφ] at e1
 cases e1
 have hgs : g < w.heap.size := by
  rcases Nat.lt_or_ge g w.heap.size with c | c
  ·exact c
  ·rw [Array.getElem?_eq_none c] at hcur; cases hcur
 refine ⟨fun b o hb' => ?_, fun i hi => h.unused i (by simpa using hi), fun i b hib => ?_, fun i j bi bj g1 hi hj p1 p2 => ?_, h.good, fun j i l hj => by
  rw [List.getElem?_set] at hj
  split at hj
  ·first | (simp at hj; done) | (split at hj <;> simp at hj)
  ·exact h.pins j i l hj⟩
 ·have hold := h.agree b o hb'
  have hbs : b < w.heap.size := by
   rcases Nat.lt_or_ge b w.heap.size with c | c
   ·exact c
   ·rw [Array.getElem?_eq_none c] at hold; cases hold
  rw [heap_putRow _ _ _ _ _ hbs, if_neg (fun q => by subst q; rw [hF] at hb'; cases hb')]
  exact hold
 ·rw [List.getElem?_set] at hib
  by_cases c : id = i
  ·subst c
   rw [if_pos rfl, if_pos hidl] at hib
   cases hib
   refine .inr (.inl ⟨g, cap, Go.Sort.putCells (Value.int .i64) 0 ys.toArray cur, hφ, hbase, hF, ?_, ?_, hcap, ?_, fun i e he => ?_⟩)
   ·rw [heap_putRow _ _ _ _ _ hgs, if_pos rfl, hcur]; rfl
   ·simp only [Blk.es, intEs, List.length_map, List.length_append, List.length_drop] at hlen ⊢; omega
   ·simp [Go.Sort.putCells, hsz, Blk.sz]
   ·simp only [Blk.es, intEs, List.getElem?_map] at he
    cases hq : (ys ++ xs.drop ys.length)[i]? with
    | none => rw [hq] at he; cases he
    | some q =>
     rw [hq] at he; simp at he; subst he
     refine ⟨rfl, fun j x hx => ?_⟩
     have hj : j = 0 := by
      rcases Nat.eq_zero_or_pos j with c | c
      ·exact c
      ·rw [List.getElem?_eq_none (by simp; omega)] at hx; cases hx
     subst hj
     simp at hx; subst hx
     simp only [Blk.sz, Nat.mul_one, Nat.add_zero, Go.Sort.putCells, Array.getElem?_mapIdx, Nat.zero_le, true_and, Nat.zero_add, List.size_toArray, Nat.sub_zero]
     have hlt := (List.getElem?_eq_some_iff.1 hq).1
     rw [List.getElem?_append] at hq
     have hilen : i < cur.size := by
      simp only [Blk.es, intEs, List.length_map] at hlen
      simp only [List.length_append, List.length_drop] at hlt
      rw [hsz]; simp only [Blk.sz]; omega
     rw [Array.getElem?_eq_getElem hilen]
     simp only [Option.map_some]
     split at hq
     ·rename_i hlt2
      rw [if_pos hlt2]
      have hyq : ys.toArray[i]! = q := by
       rw [getElem!_pos _ i (by simpa using hlt2)]
       rw [List.getElem?_eq_getElem hlt2] at hq
       simpa using hq
      rw [hyq]
      obtain ⟨b1, b2⟩ := hy q (List.mem_of_getElem? hq)
      exact ⟨_, rfl, .int _ _ b1 b2, rfl⟩
     ·rename_i hlt2
      rw [if_neg hlt2]
      rw [List.getElem?_drop] at hq
      have hq' : xs[i]? = some q := by
       have : ys.length + (i - ys.length) = i := by omega
       rwa [this] at hq
      obtain ⟨_, h2⟩ := hel i [.int .i64 q] (by simp [Blk.es, intEs, hq'])
      obtain ⟨u, u1, u2, u3⟩ := h2 0 _ rfl
      simp only [Blk.sz, Nat.mul_one, Nat.add_zero] at u1
      rw [Array.getElem?_eq_getElem hilen] at u1
      cases u1
      exact ⟨_, rfl, u2, u3⟩
  ·rw [if_neg c] at hib
   refine (h.blk i b hib).le (FLe.refl F) (PLe.refl φ) (fun g _ hg _ => hg) fun g2 hg2 => ?_
   have hne : g2 ≠ g := fun q => by
    subst q
    exact c (h.sep id i _ _ _ hb hib (by rw [hφ]; rfl) hg2)
   rw [heap_putRow _ _ _ _ _ (h.occ_lt hib hg2), if_neg hne]
 ·have key : ∀ (i : Nat) (bi : Blk), (H.set id (some (.ints et .i64 (ys ++ xs.drop ys.length))))[i]? = some (some bi) → ∃ b', H[i]? = some (some b') := fun i bi q => by
   rw [List.getElem?_set] at q
   by_cases c : id = i
   ·subst c; exact ⟨_, hb⟩
   ·rw [if_neg c] at q; exact ⟨_, q⟩
  obtain ⟨b1, hb1⟩ := key i bi hi
  obtain ⟨b2, hb2⟩ := key j bj hj
  exact h.sep i j _ _ _ hb1 hb2 p1 p2
/-- A call of the sort at a row of the call's own. -/
theorem sort_call {P : Program} {ρ : Go.Shelf.Ren} (Ly : Go.Proofs.Lays.n189 P ρ) {base : Nat} {H : List (Option Blk)} (h : RelH F φ base H w) {id n : Nat} {et : TypeId} {xs : List Int} (hb : H[id]? = some (some (.ints et .i64 xs))) {v : Value} (hv : RepV F φ (.own id n) v) (hn : n ≤ xs.length) (hm : n < 4611686018427387904) (hx : ∀ y, y ∈ xs → lo .i64 ≤ y ∧ y ≤ hi .i64) :
  Calls P (ρ.f 189) #[v] w fun e w' => e = .returned (.tuple #[]) ∧ RelH F φ base (H.set id (some (.ints et .i64 (((xs.take n).mergeSort fun x y => decide (x ≤ y)) ++ xs.drop n)))) w' ∧ Below base w w' := by
 cases hv with
 | ownNil _ h1 =>
  refine (Go.Proofs.Any.slices_Sort_int_none Ly none 0 w).mono fun e w' ⟨he, hw⟩ => ⟨he, ?_, ?_⟩
  ·subst hw
   have : H.set id (some (.ints et .i64 (((xs.take 0).mergeSort fun x y => decide (x ≤ y)) ++ xs.drop 0))) = H := by
    simp only [List.take_zero, List.mergeSort_nil, List.drop_zero, List.nil_append]
    apply List.ext_getElem?
    intro i
    rw [List.getElem?_set]
    split
    ·rename_i c
     subst c
     rw [hb]
     split
     ·rfl
     ·rename_i c; rw [List.getElem?_eq_none (by omega)] at hb; cases hb
    ·rfl
   rw [this]; exact h
  ·subst hw; exact Below.refl _ _
 | own _ _ g cap sz et' hφ h1 h2 =>
  rcases (h.blk id _ hb).nxC rfl with ⟨q, _⟩ | ⟨g', cap', cur, q, hbase, hF, hcur, hlen, hcap, hsz, hel⟩
  ·rw [hφ] at q; cases q
  rw [hφ] at q
  cases q
  have hgs : g < w.heap.size := by
   rcases Nat.lt_or_ge g w.heap.size with c | c
   ·exact c
   ·rw [Array.getElem?_eq_none c] at hcur; cases hcur
  have hzl : (xs.take n).length = n := by simp; omega
  have hH : Go.Sort.Holds (Value.int .i64) w g 0 (xs.take n).toArray := fun j hj => by
   have hj' : j < n := by simpa [hn] using hj
   have hjx : j < xs.length := by omega
   obtain ⟨_, k2⟩ := hel j [.int .i64 xs[j]] (by simp [Blk.es, intEs, List.getElem?_eq_getElem hjx])
   obtain ⟨u, u1, u2, _⟩ := k2 0 _ rfl
   obtain ⟨hu, _⟩ := int_inv u2
   subst hu
   simp only [Blk.sz, Nat.mul_one, Nat.add_zero] at u1
   have e1 : (xs.take n).toArray[j]! = xs[j] := by
    rw [getElem!_pos _ j hj]; simp
   refine ⟨?_, ?_⟩
   ·rw [e1]
    simp [World.cell?, hcur, u1]
   ·simp [World.frozen?, hcur]
  have hc := Go.Proofs.Any.slices_Sort_int Ly g 0 cap (xs.take n) w hH hgs (by omega)
  rw [hzl] at hc
  refine hc.mono fun e w' ⟨he, m, os, hw⟩ => ⟨he, ?_, ?_⟩
  ·subst hw
   have hl2 : ((xs.take n).mergeSort fun x y => decide (x ≤ y)).length = n := by rw [List.length_mergeSort, hzl]
   have := h.sorted (n := m) hb hφ (ys := (xs.take n).mergeSort fun x y => decide (x ≤ y)) (by omega) (fun y hy => hx y (List.mem_of_mem_take ((List.mergeSort_perm _ _).mem_iff.1 hy))) os
   rw [hl2] at this
   exact this
  ·subst hw
   refine ⟨rfl, rfl, rfl, ?_, fun k hk => ?_⟩
   ·simp [Go.Sort.grow, Go.Sort.putRow, Go.Sort.mapBlock]
   ·rw [heap_putRow _ _ _ _ _ (by omega), if_neg (by omega)]
/-- In order. -/
def sortL (xs : List Int) : List Int := xs.mergeSort fun x y => decide (x ≤ y)
theorem sortL_len (xs : List Int) : (sortL xs).length = xs.length := List.length_mergeSort _
/-- The integers of a row of the call's own are integers. -/
theorem RelH.bounds {base : Nat} {H : List (Option Blk)} (h : RelH F φ base H w) {id : Nat} {et : TypeId} {xs : List Int} (hb : H[id]? = some (some (.ints et .i64 xs))) : ∀ y, y ∈ xs → lo .i64 ≤ y ∧ y ≤ hi .i64 := by
 intro y hy
 rcases (h.blk id _ hb).nxC rfl with ⟨_, q⟩ | ⟨g, cap, cur, e1, hbase, hF, hcur, hlen, hcap, hsz, hel⟩
 ·simp only [Blk.es, intEs, List.map_eq_nil_iff] at q
  subst q; simp at hy
 ·obtain ⟨j, hj, rfl⟩ := List.getElem_of_mem hy
  obtain ⟨_, k2⟩ := hel j [.int .i64 xs[j]] (by simp [Blk.es, intEs, List.getElem?_eq_getElem hj])
  obtain ⟨u, u1, u2, _⟩ := k2 0 _ rfl
  exact (int_inv u2).2
/-- A call that turns blocks of the call's own and gives r. -/
theorem AWPL_prim (K : List Nat) {P : Program} {w0 : World} {st : St} {all : Array Oper} {Q : Exit → St → Prop} {rest : List Oper} {o : Oper} {fo x : Operand} {tys : Array TypeId} {d f : Nat} {r : AVal} {h' : List (Option Blk)}
  (hop : o.op = .call ⟨.value fo, #[x], tys⟩) (hdst : o.dst = some d) (hpc : pcOf all st.s o.guard = (true, true)) (hf : opd st.s fo = .func f []) (hcall : ∀ args w, (callFunc f args).run P w = .ok (.enter f args) w) (hd : d < st.n)
  (hc : ∀ F φ w v, RelH F φ w0.heap.size st.h w → w0.heap.size ≤ w.heap.size → RepV F φ (opd st.s x) v → Calls P f #[v] w fun e w' => ∃ v' φ', e = .returned v' ∧ PLe φ φ' ∧ RelH F φ' w0.heap.size h' w' ∧ RepV F φ' r v' ∧ Below w0.heap.size w w')
  (h : ∀ st', (⟨st.n, keepL K (putL st.s d r), h'⟩ : St) = st' → AWPL P w0 all Q rest st') : AWPL P w0 all Q (o :: rest) st := by
 intro F φ a w hrel
 have hwant : Region.wanted o (yielded all a.tmps) = true := by rw [pc_wanted hrel (by rw [hpc]), hpc]
 refine wpList_step fun K' hK => ?_
 rw [if_pos hwant]
 have hfr := opd_rep hrel fo
 rw [hf] at hfr
 have hcv : a.eval fo = .func (.func f) #[] #[] := by
  generalize a.eval fo = u at hfr
  cases hfr with | func _ _ vs h1 h2 =>
   have : vs = #[] := by
    apply Array.eq_empty_of_size_eq_zero; simpa using h1.symm
   rw [this]
 have hrun : (execOp a.eval o).run P w = .ok (.enter f #[a.eval x]) w := by
  simp only [execOp, hop, resolve, hcv, Deferred.ofValue, Sem.run_bind, Sem.run_pure, Result.andThen_ok, invoke, Array.empty_append, hcall]
  simp
 unfold Oper.wp
 rw [hrun]
 refine (hc F φ w _ hrel.heap hrel.below.size (opd_rep hrel x)).mono fun e w' ⟨v', φ', he, k0, k1, k2, k3⟩ => ?_
 subst he
 refine hK _ _ ?_
 have := Rel.put (st := { st with h := h' }) (d := d) (x := r) (v := v') ⟨k1, hrel.size, fun i => (hrel.slots i).le (FLe.refl F) k0, hrel.defers, hrel.below.trans k3⟩ hd k2
 rw [hdst]
 exact h _ rfl F _ _ w' (this.keep K)
section
variable {P : Program} {w0 : World} {st : St} {all : Array Oper} {Q : Exit → St → Prop} {rest : List Oper} {o : Oper} {fo x : Operand} {tys : Array TypeId} {d id : Nat} {et : TypeId} {xs : List Int} {ρ : Go.Shelf.Ren}
theorem AWPL_sort (K : List Nat) (Ly : Go.Proofs.Lays.n189 P ρ) (hop : o.op = .call ⟨.value fo, #[x], tys⟩) (hdst : o.dst = some d) (hpc : pcOf all st.s o.guard = (true, true)) (hf : opd st.s fo = .func (ρ.f 189) []) (hcall : ∀ args w, (callFunc (ρ.f 189) args).run P w = .ok (.enter (ρ.f 189) args) w) (hd : d < st.n)
  (hx : opd st.s x = .own id xs.length) (hb : st.h[id]? = some (some (.ints et .i64 xs))) (hm : xs.length < 4611686018427387904)
  (h : ∀ st', (⟨st.n, keepL K (putL st.s d (.tup [])), st.h.set id (some (.ints et .i64 (sortL xs)))⟩ : St) = st' → AWPL P w0 all Q rest st') : AWPL P w0 all Q (o :: rest) st :=
 AWPL_prim K hop hdst hpc hf hcall hd (fun F φ w v hr _ hv => by
  rw [hx] at hv
  refine (sort_call Ly hr hb hv (Nat.le_refl _) hm (hr.bounds hb)).mono fun e w' ⟨he, k1, k2⟩ => ⟨_, φ, he, PLe.refl φ, ?_, .tup _ _ rfl fun i x v hx => by simp at hx, k2⟩
  rw [List.take_length, List.drop_length, List.append_nil] at k1
  exact k1) h
end
end Go.AX
