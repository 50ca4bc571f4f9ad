/-
  The library's stable sort at a short row of the call's own, its comparison handed in. Conditions: the sort's text as the seat's 'StabOk' has it; the comparison reads and may draw.
-/
import Derived.Test.YtkjfccdfmjnkbaaAxU
import Derived.Test.YtkjfccdfmjnkbaaAxP
import Derived.Test.YtkjfccdfmjnkbaaAxY
import Derived.Shelf.SlSortCmp.Insertion1
set_option linter.unusedSimpArgs false
set_option linter.unusedVariables false
namespace Go.AX
open Go Go.RowKit Go.Proofs

/-- A function that reads and may draw, and no more: what it answers. -/
def PureQ (P : Program) (g : FuncId) (args : List AVal) (r : Int) : Prop :=
  ∀ (w : World) (F : Fz) (vs : Array Value), Agree F w → args.length = vs.size → (∀ (i : Nat) (x : AVal) (v : Value), args[i]? = some x → vs[i]? = some v → RepV F φ0 x v) →
    Calls P g vs w fun e w' => e = .returned (.int .i64 r) ∧ ∃ q, w' = w.drewN q

/-- What is asked of the sort's text. -/
structure StabOk (P : Program) (fs : FuncId) : Prop where
  some : ∀ (enc : Int → Value) (cf : Int → Int → Int) (g : Nat) (cb : Array Value) (blk off cap : Nat) (d : Array Int) (w : World), OneCell enc → (∀ args w, (callFunc g args).run P w = .ok (.enter g args) w) → CmpLays1 P g cb enc cf blk off d.size w → Go.Sort.Holds enc w blk off d → blk < w.heap.size → d.size < 20 →
    Calls P fs #[.slice (some ⟨blk, off, none⟩) d.size cap, .func (.func g) #[] cb] w fun e w' => e = .returned (.tuple #[]) ∧ SW enc w blk off (Go.Sort.insertionSort (ltOf cf) d 0 d.size) w'
  none : ∀ (p : Option Addr) (cap : Nat) (fv : Value) (w : World), Calls P fs #[.slice p 0 cap, fv] w fun e w' => e = .returned (.tuple #[]) ∧ w' = w

variable {P : Program} {F : Fz} {φ : Phi} {w0 w : World} {st : St}

theorem heap_putRowE (enc : Int → Value) (d : Array Int) (n g b : Nat) (os : Array Obj) (hb : b < w.heap.size) (hne : b ≠ g) :
    (Go.Sort.grow (Go.Sort.putRow enc (Go.Sort.ahead w n) g 0 d) os).heap[b]? = w.heap[b]? := by
  have hs : (Go.Sort.putRow enc (Go.Sort.ahead w n) g 0 d).heap.size = w.heap.size := by simp
  show ((Go.Sort.putRow enc (Go.Sort.ahead w n) g 0 d).heap ++ os)[b]? = _
  rw [Array.getElem?_append_left (by omega)]
  show (w.heap.modify g (Go.Sort.onCells (Go.Sort.putCells enc 0 d)))[b]? = _
  rw [Array.getElem?_modify, if_neg fun q => hne q.symm]
theorem putRow_clamp (xs : List Int) (d : Array Int) (hd : ∀ j, j < d.size → d[j]! ∈ xs) (w : World) (g : Nat) : Go.Sort.putRow (fun x => Value.int .i64 (clampL xs x)) w g 0 d = Go.Sort.putRow (Value.int .i64) w g 0 d := by
  unfold Go.Sort.putRow
  congr 1
  funext c
  unfold Go.Sort.putCells
  apply Array.ext
  · simp
  · intro k h1 h2
    simp only [Array.getElem_mapIdx]
    split
    · rename_i q
      rw [clampL_of (hd _ (by omega))]
    · rfl

theorem AWPL_stab (K : List Nat) {fs : FuncId} (S : StabOk P fs) {all : Array Oper} {Q : Exit → St → Prop} {rest : List Oper} {o : Oper} {fo xo fx : Operand} {tys : Array TypeId} {d id g : Nat} {et : TypeId} {xs : List Int} {caps ycaps : List AVal} {f : Int → Int → Option Int}
    (hop : o.op = .call ⟨.value fo, #[xo, fx], tys⟩) (hdst : o.dst = some d) (hpc : pcOf all st.s o.guard = (true, true)) (hf : opd st.s fo = .func fs []) (hcall : ∀ args w, (callFunc fs args).run P w = .ok (.enter fs args) w) (hd : d < st.n)
    (hx : opd st.s xo = .own id xs.length) (hb : st.h[id]? = some (some (.ints et .i64 xs))) (hg : opd st.s fx = .func g caps) (hgc : ∀ args w, (callFunc g args).run P w = .ok (.enter g args) w)
    (hcaps : ArgsOk (st.h.set id none) caps ycaps) (hP : ∀ x y r, f x y = some r → PureQ P g ([.int .i64 x, .int .i64 y] ++ ycaps) r) (ho : OrdL f xs ∧ xs.length < 20)
    (h : ∀ st', (⟨st.n, keepL K (putL st.s d (.tup [])), st.h.set id (some (.ints et .i64 (stabL f xs)))⟩ : St) = st' → AWPL P w0 all Q rest st') : AWPL P w0 all Q (o :: rest) st := by
  intro F φ a w hrel
  have hwant : Region.wanted o (yielded all a.tmps) = true := by rw [pc_wanted hrel (by rw [hpc]), hpc]
  refine wpList_step fun K' hK => ?_
  rw [if_pos hwant]
  have hfr := opd_rep hrel fo
  rw [hf] at hfr
  have hcv : a.eval fo = .func (.func fs) #[] #[] := by
    generalize a.eval fo = u at hfr
    cases hfr with | func _ _ vs h1 h2 =>
      have : vs = #[] := by
        apply Array.eq_empty_of_size_eq_zero; simpa using h1.symm
      rw [this]
  have hrun : (execOp a.eval o).run P w = .ok (.enter fs #[a.eval xo, a.eval fx]) w := by
    simp only [execOp, hop, resolve, hcv, Deferred.ofValue, Sem.run_bind, Sem.run_pure, Result.andThen_ok, invoke, Array.empty_append, hcall]
    simp
  unfold Oper.wp
  rw [hrun]
  obtain ⟨ho, hm⟩ := ho
  have hkill := hrel.heap.kill id
  have hidl := Blk.ext_lt hb
  have hgr := opd_rep hrel fx
  rw [hg] at hgr
  obtain ⟨cb, hcb, hcl, hcr⟩ : ∃ cb : Array Value, a.eval fx = .func (.func g) #[] cb ∧ caps.length = cb.size ∧ ∀ (i : Nat) (x : AVal) (v : Value), caps[i]? = some x → cb[i]? = some v → RepV F φ x v := by
    generalize a.eval fx = u at hgr
    cases hgr with | func _ _ vs h1 h2 => exact ⟨vs, rfl, h1, h2⟩
  obtain ⟨g1, g2⟩ := hcaps.get
  have hxr := opd_rep hrel xo
  rw [hx] at hxr
  rw [hcb]
  have fin : ∀ w', RelH F φ w0.heap.size (st.h.set id (some (.ints et .i64 (stabL f xs)))) w' → Below w0.heap.size w w' → K' (a.put (some d) (.tuple #[])) w' := fun w' k1 k3 => by
    refine hK _ _ ?_
    have := Rel.put (st := { st with h := st.h.set id (some (.ints et .i64 (stabL f xs))) }) (d := d) (x := .tup []) (v := .tuple #[]) ⟨k1, hrel.size, fun i => (hrel.slots i).le (FLe.refl F) (PLe.refl φ), hrel.defers, hrel.below.trans k3⟩ hd (.tup _ _ rfl fun i x v hx => by simp at hx)
    exact h _ rfl F _ _ w' (this.keep K)
  rcases Classical.em (xs = []) with rfl | hne
  · -- nothing to sort
    have hn : ∃ p cap, a.eval xo = .slice p 0 cap := by
      generalize hz : ([] : List Int).length = z at hxr
      generalize a.eval xo = u at hxr
      have hz' : z = 0 := hz.symm
      cases hxr with
      | own _ _ g cap sz et' => subst hz'; exact ⟨_, _, rfl⟩
      | ownNil _ => exact ⟨_, _, rfl⟩
    obtain ⟨p, cap, hn⟩ := hn
    rw [hn]
    refine (S.none p cap _ w).mono fun e w' ⟨he, hw⟩ => ?_
    subst he hw
    have e1 : st.h.set id (some (.ints et .i64 (stabL f []))) = st.h := by rw [stabL_nil]; exact set_self hb
    have := fin w' (by rw [e1]; exact hrel.heap) (Below.refl _ _)
    rw [hdst]; exact this
  generalize hv : a.eval xo = v1 at hxr
  generalize hn : xs.length = n at hxr
  cases hxr with
  | ownNil _ h1 =>
    exfalso
    rcases hrel.heap.blk id _ hb with ⟨_, q⟩ | ⟨g', cap', cur, q, _⟩
    · simp only [Blk.es, intEs, List.map_eq_nil_iff] at q
      exact hne q
    · rw [h1] at q; cases q
  | own _ _ gb cap sz et' hφ h1 h2 =>
    have hφ' : φ id = .at gb cap 1 et := by
      rcases hrel.heap.blk id _ hb with ⟨q, _⟩ | ⟨g', cap', cur, q, _⟩
      · rw [hφ] at q; cases q
      · rw [hφ] at q; cases q; exact hφ
    obtain ⟨cur, hbase, hFn, hcur⟩ : ∃ cur, w0.heap.size ≤ gb ∧ F gb = none ∧ w.heap[gb]? = some cur := by
      rcases hrel.heap.blk id _ hb with ⟨q, _⟩ | ⟨g', cap', cur, q, q1, q2, q3, _⟩
      · rw [hφ'] at q; cases q
      · rw [hφ'] at q; cases q; exact ⟨_, q1, q2, q3⟩
    have hgs : gb < w.heap.size := by
      rcases Nat.lt_or_ge gb w.heap.size with c | c
      · exact c
      · rw [Array.getElem?_eq_none c] at hcur; cases hcur
    have hHold := holds_of hrel.heap hb hφ' (n := xs.length) (Nat.le_refl _)
    rw [List.take_length] at hHold
    have mem : ∀ j, j < xs.toArray.size → xs.toArray[j]! ∈ xs := fun j hj => by
      rw [getElem!_pos _ j hj]
      simp
    have hHold2 : Go.Sort.Holds (fun x => Value.int .i64 (clampL xs x)) w gb 0 xs.toArray := fun j hj => by
      have := hHold j hj
      exact ⟨by show w.cell? _ = some (Value.int .i64 (clampL xs xs.toArray[j]!)); rw [clampL_of (mem j hj)]; exact this.1, this.2⟩
    -- the comparison's own view
    have hFno : addOwn F φ (st.h.set id none) w gb = none := by
      unfold addOwn
      rw [hFn]
      simp only
      refine if_neg ?_
      rintro ⟨id', b', c', s', t', q1, q2⟩
      have hne' : id' ≠ id := by
        rintro rfl
        rw [List.getElem?_set_self hidl] at q1; simp at q1
      rw [List.getElem?_set_ne (Ne.symm hne')] at q1
      exact hne' (hrel.heap.inj id' id _ _ _ _ _ _ _ _ _ q1 hb q2 hφ')
    have hag : Agree (addOwn F φ (st.h.set id none) w) w := addOwn_agree hkill
    have hcmp : CmpLays1 P g cb (fun x => Value.int .i64 (clampL xs x)) (cfL f xs) gb 0 xs.toArray.size w := by
      intro m os dk hs x y
      obtain ⟨r, hr⟩ := ho.tot _ (clampL_mem hne x) _ (clampL_mem hne y)
      have ecf : cfL f xs x y = r := by unfold cfL; rw [hr]; rfl
      rw [ecf]
      have hbd := hrel.heap.bounds hb
      refine (hP _ _ r hr _ (addOwn F φ (st.h.set id none) w) (#[Value.int .i64 (clampL xs x), Value.int .i64 (clampL xs y)] ++ cb) (fun b o hb' => ?_) (by rw [List.length_append, ← g1, hcl]; simp) (fun i z v hz hv => ?_)).mono fun e w' ⟨he, q, hw⟩ => ⟨he, q, #[], by rw [hw]; exact (grow_none _).symm⟩
      · have hold := hag b o hb'
        have hbs : b < w.heap.size := by
          rcases Nat.lt_or_ge b w.heap.size with c | c
          · exact c
          · rw [Array.getElem?_eq_none c] at hold; cases hold
        have hbg : b ≠ gb := fun q => by subst q; rw [hFno] at hb'; cases hb'
        exact (heap_putRowE _ dk m gb b os hbs hbg).trans hold
      · match i, hz, hv with
        | 0, hz, hv =>
          have e1 : z = .int .i64 (clampL xs x) := by simpa using hz.symm
          have e2 : v = Value.int .i64 (clampL xs x) := by
            rw [Array.getElem?_append_left (by simp)] at hv
            simpa using hv.symm
          subst e1 e2
          have := hbd _ (clampL_mem hne x)
          exact .int _ _ this.1 this.2
        | 1, hz, hv =>
          have e1 : z = .int .i64 (clampL xs y) := by simpa using hz.symm
          have e2 : v = Value.int .i64 (clampL xs y) := by
            rw [Array.getElem?_append_left (by simp)] at hv
            simpa using hv.symm
          subst e1 e2
          have := hbd _ (clampL_mem hne y)
          exact .int _ _ this.1 this.2
        | i + 2, hz, hv =>
          have hz' : ycaps[i]? = some z := by simpa using hz
          have hv' : cb[i]? = some v := by
            rw [Array.getElem?_append] at hv
            rw [if_neg (by simp)] at hv
            simpa using hv
          have hi : i < caps.length := by
            rw [g1]
            rcases Nat.lt_or_ge i ycaps.length with c | c
            · exact c
            · rw [List.getElem?_eq_none c] at hz'; cases hz'
          have hx' := List.getElem?_eq_getElem hi
          exact argOk_rep (st := ⟨st.n, st.s, st.h.set id none⟩) hkill (g2 i _ z hx' hz') (hcr i _ v hx' hv')
    have hS := S.some (fun x => Value.int .i64 (clampL xs x)) (cfL f xs) g cb gb 0 cap xs.toArray w (fun _ => rfl) hgc hcmp hHold2 hgs (by simpa using hm)
    have esz : xs.toArray.size = xs.length := by simp
    rw [esz, hn] at hS
    refine hS.mono fun e w' ⟨he, k, os, hw⟩ => ?_
    subst he
    have hp := ho.perm
    have hl := ho.len
    have eY : Go.Sort.insertionSort (ltOf (cfL f xs)) xs.toArray 0 xs.length = (stabL f xs).toArray := by
      unfold stabL
      rfl
    rw [← hn, eY] at hw
    unfold sortWorld at hw
    rw [putRow_clamp xs _ (fun j hj => by
      rw [getElem!_pos _ j hj, ← hp.mem_iff]
      simp)] at hw
    have hR := hrel.heap.sorted (n := k) hb hφ' (ys := stabL f xs) (by omega) (fun y hy => hrel.heap.bounds hb y (hp.mem_iff.1 hy)) os
    rw [hl, List.drop_length, List.append_nil, ← hw] at hR
    have := fin w' hR ⟨by subst hw; rfl, by subst hw; rfl, by subst hw; rfl, by subst hw; simp [Go.Sort.grow, Go.Sort.putRow, Go.Sort.mapBlock], fun k hk => by subst hw; exact heap_putRowE _ _ _ gb _ os (by omega) (by omega)⟩
    rw [hdst]; exact this
end Go.AX
