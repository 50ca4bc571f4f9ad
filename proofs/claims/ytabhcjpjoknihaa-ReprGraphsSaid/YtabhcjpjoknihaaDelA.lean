/-
  The library's DeleteFunc at a row of the call's own, its predicate handed in. Conditions: DeleteFunc's text as the kit's shelf has it; the row is not empty; the predicate reads and may draw, and has an answer at nought.
-/
import Derived.Test.YtabhcjpjoknihaaAxP
import Derived.Test.YtabhcjpjoknihaaAxDl
import Derived.Test.YtabhcjpjoknihaaAxY
import Derived.Test.YtabhcjpjoknihaaAxOp
import Derived.Shelf.SlicesE.DeleteFunc
set_option linter.unusedSimpArgs false
set_option linter.unusedVariables false
namespace Go.AX
open Go Go.RowKit Go.Proofs

/-- A predicate that reads and may draw, and no more: what it answers. -/
def PureB (P : Program) (g : FuncId) (args : List AVal) (r : Bool) : Prop :=
  ∀ (w : World) (F : Fz) (vs : Array Value), Agree F w → args.length = vs.size → (∀ (i : Nat) (x : AVal) (v : Value), args[i]? = some x → vs[i]? = some v → RepV F φ0 x v) →
    Calls P g vs w fun e w' => e = .returned (.bool r) ∧ ∃ q, w' = w.drewN q

variable {P : Program} {F : Fz} {φ : Phi} {w0 w : World} {st : St}

theorem heap_putRowE (enc : Int → Value) (d : Array Int) (n g b : Nat) (os : Array Obj) (hb : b < w.heap.size) (hne : b ≠ g) :
    (Go.Sort.grow (Go.Sort.putRow enc (Go.Sort.ahead w n) g 0 d) os).heap[b]? = w.heap[b]? := by
  have hs : (Go.Sort.putRow enc (Go.Sort.ahead w n) g 0 d).heap.size = w.heap.size := by simp
  show ((Go.Sort.putRow enc (Go.Sort.ahead w n) g 0 d).heap ++ os)[b]? = _
  rw [Array.getElem?_append_left (by omega)]
  show (w.heap.modify g (Go.Sort.onCells (Go.Sort.putCells enc 0 d)))[b]? = _
  rw [Array.getElem?_modify, if_neg fun q => hne q.symm]
theorem putRow_clamp (xs : List Int) (d : Array Int) (hd : ∀ j, j < d.size → d[j]! ∈ xs) (w : World) (g : Nat) : Go.Sort.putRow (fun x => Value.int .i64 (clampL xs x)) w g 0 d = Go.Sort.putRow (Value.int .i64) w g 0 d := by
  unfold Go.Sort.putRow
  congr 1
  funext c
  unfold Go.Sort.putCells
  apply Array.ext
  · simp
  · intro k h1 h2
    simp only [Array.getElem_mapIdx]
    split
    · rename_i q
      rw [clampL_of (hd _ (by omega))]
    · rfl

theorem AWPL_delf (K : List Nat) {ρ : Go.Shelf.Ren} (Ly : SlLaysH.n10 P ρ) {all : Array Oper} {Q : Exit → St → Prop} {rest : List Oper} {o : Oper} {fo xo fx : Operand} {tys : Array TypeId} {d id g : Nat} {et : TypeId} {xs : List Int} {caps ycaps : List AVal} {f : Int → Option Bool}
    (hop : o.op = .call ⟨.value fo, #[xo, fx], tys⟩) (hdst : o.dst = some d) (hpc : pcOf all st.s o.guard = (true, true)) (hf : opd st.s fo = .func (ρ.f 10) []) (hcall : ∀ args w, (callFunc (ρ.f 10) args).run P w = .ok (.enter (ρ.f 10) args) w) (hd : d < st.n)
    (hx : opd st.s xo = .own id xs.length) (hb : st.h[id]? = some (some (.ints et .i64 xs))) (hg : opd st.s fx = .func g caps) (hgc : ∀ args w, (callFunc g args).run P w = .ok (.enter g args) w)
    (hcaps : ArgsOk (st.h.set id none) caps ycaps) (hP : ∀ x r, f x = some r → PureB P g ([.int .i64 x] ++ ycaps) r) (hzr : ∀ w, (zeroValue (ρ.t 23)).run P w = .ok (.int .i64 0) w) (ho : DefL f xs)
    (h : ∀ st', (⟨st.n, keepL K (putL st.s d (.own id (delL f xs).length)), st.h.set id (some (.ints et .i64 (delL f xs)))⟩ : St) = st' → AWPL P w0 all Q rest st') : AWPL P w0 all Q (o :: rest) st := by
  intro F φ a w hrel
  have hwant : Region.wanted o (yielded all a.tmps) = true := by rw [pc_wanted hrel (by rw [hpc]), hpc]
  refine wpList_step fun K' hK => ?_
  rw [if_pos hwant]
  have hfr := opd_rep hrel fo
  rw [hf] at hfr
  have hcv : a.eval fo = .func (.func (ρ.f 10)) #[] #[] := by
    generalize a.eval fo = u at hfr
    cases hfr with | func _ _ vs h1 h2 =>
      have : vs = #[] := by
        apply Array.eq_empty_of_size_eq_zero; simpa using h1.symm
      rw [this]
  have hrun : (execOp a.eval o).run P w = .ok (.enter (ρ.f 10) #[a.eval xo, a.eval fx]) w := by
    simp only [execOp, hop, resolve, hcv, Deferred.ofValue, Sem.run_bind, Sem.run_pure, Result.andThen_ok, invoke, Array.empty_append, hcall]
    simp
  unfold Oper.wp
  rw [hrun]
  obtain ⟨hne, hdef⟩ := ho
  have hkill := hrel.heap.kill id
  have hidl := Blk.ext_lt hb
  have hgr := opd_rep hrel fx
  rw [hg] at hgr
  obtain ⟨cb, hcb, hcl, hcr⟩ : ∃ cb : Array Value, a.eval fx = .func (.func g) #[] cb ∧ caps.length = cb.size ∧ ∀ (i : Nat) (x : AVal) (v : Value), caps[i]? = some x → cb[i]? = some v → RepV F φ x v := by
    generalize a.eval fx = u at hgr
    cases hgr with | func _ _ vs h1 h2 => exact ⟨vs, rfl, h1, h2⟩
  obtain ⟨g1, g2⟩ := hcaps.get
  have hxr := opd_rep hrel xo
  rw [hx] at hxr
  rw [hcb]
  have fin : ∀ v' w', RepV F φ (.own id (delL f xs).length) v' → RelH F φ w0.heap.size (st.h.set id (some (.ints et .i64 (delL f xs ++ List.replicate (xs.length - (delL f xs).length) 0)))) w' → Below w0.heap.size w w' → K' (a.put (some d) v') w' := fun v' w' k2 k1 k3 => by
    refine hK _ _ ?_
    have k1' := k1.cutI (List.getElem?_set_self hidl) (by
      intro q
      have q2 := congrArg List.length q
      have q3 : (delL f xs).length ≤ xs.length := List.length_filter_le _ _
      have q4 : 0 < xs.length := List.length_pos_iff.2 hne
      simp only [List.length_append, List.length_replicate, List.length_nil] at q2
      omega)
    rw [List.set_set] at k1'
    have := Rel.put (st := { st with h := st.h.set id (some (.ints et .i64 (delL f xs))) }) (d := d) (x := .own id (delL f xs).length) (v := v') ⟨k1', hrel.size, fun i => (hrel.slots i).le (FLe.refl F) (PLe.refl φ), hrel.defers, hrel.below.trans k3⟩ hd k2
    exact h _ rfl F _ _ w' (this.keep K)
  have hZ : (0 : Int) :: xs ≠ [] := by simp
  generalize hv : a.eval xo = v1 at hxr
  generalize hn : xs.length = n at hxr
  cases hxr with
  | ownNil _ h1 =>
    exfalso
    rcases (hrel.heap.blk id _ hb).nxC rfl with ⟨_, q⟩ | ⟨g', cap', cur, q, _⟩
    · simp only [Blk.es, intEs, List.map_eq_nil_iff] at q
      exact hne q
    · rw [h1] at q; cases q
  | own _ _ gb cap sz et' hφ h1 h2 =>
    have hφ' : φ id = .at gb cap 1 et := by
      rcases (hrel.heap.blk id _ hb).nxC rfl with ⟨q, _⟩ | ⟨g', cap', cur, q, _⟩
      · rw [hφ] at q; cases q
      · rw [hφ] at q; cases q; exact hφ
    obtain ⟨cur, hbase, hFn, hcur⟩ : ∃ cur, w0.heap.size ≤ gb ∧ F gb = none ∧ w.heap[gb]? = some cur := by
      rcases (hrel.heap.blk id _ hb).nxC rfl with ⟨q, _⟩ | ⟨g', cap', cur, q, q1, q2, q3, _⟩
      · rw [hφ'] at q; cases q
      · rw [hφ'] at q; cases q; exact ⟨_, q1, q2, q3⟩
    have hgs : gb < w.heap.size := by
      rcases Nat.lt_or_ge gb w.heap.size with c | c
      · exact c
      · rw [Array.getElem?_eq_none c] at hcur; cases hcur
    have hHold := holds_of hrel.heap hb hφ' (n := xs.length) (Nat.le_refl _)
    rw [List.take_length] at hHold
    have mem : ∀ j, j < xs.toArray.size → xs.toArray[j]! ∈ xs := fun j hj => by
      rw [getElem!_pos _ j hj]
      simp
    have hHold2 : Go.Sort.Holds (fun x => Value.int .i64 (clampL (0 :: xs) x)) w gb 0 xs.toArray := fun j hj => by
      have := hHold j hj
      exact ⟨by show w.cell? _ = some (Value.int .i64 (clampL (0 :: xs) xs.toArray[j]!)); rw [clampL_of (List.mem_cons_of_mem _ (mem j hj))]; exact this.1, this.2⟩
    -- the comparison's own view
    have hFno : addOwn F φ (st.h.set id none) w gb = none := by
      unfold addOwn
      rw [hFn]
      simp only
      refine if_neg ?_
      rintro ⟨id', b', q1, q2⟩
      have hne' : id' ≠ id := by
        rintro rfl
        rw [List.getElem?_set_self hidl] at q1; simp at q1
      rw [List.getElem?_set_ne (Ne.symm hne')] at q1
      exact hne' (hrel.heap.sep id' id _ _ gb q1 hb q2 (by rw [hφ']; rfl))
    have hag : Agree (addOwn F φ (st.h.set id none) w) w := addOwn_agree hkill
    have hbd : ∀ x, lo .i64 ≤ clampL (0 :: xs) x ∧ clampL (0 :: xs) x ≤ hi .i64 := fun x => by
      rcases List.mem_cons.1 (clampL_mem hZ x) with e | e
      · rw [e]; decide
      · exact hrel.heap.bounds hb _ e
    have gives : ∀ (W : World) (x : Int), Agree (addOwn F φ (st.h.set id none) w) W → FnGives P g cb #[Value.int .i64 (clampL (0 :: xs) x)] (.bool (pB f (clampL (0 :: xs) x))) W := by
      intro W x hagW
      obtain ⟨r, hr⟩ := hdef _ (clampL_mem hZ x)
      have ecf : pB f (clampL (0 :: xs) x) = r := by unfold pB; rw [hr]; rfl
      rw [ecf]
      refine hP _ r hr W (addOwn F φ (st.h.set id none) w) (#[Value.int .i64 (clampL (0 :: xs) x)] ++ cb) hagW (by rw [List.length_append, ← g1, hcl]; simp) (fun i z v hz hv => ?_)
      match i, hz, hv with
      | 0, hz, hv =>
        have e1 : z = .int .i64 (clampL (0 :: xs) x) := by simpa using hz.symm
        have e2 : v = Value.int .i64 (clampL (0 :: xs) x) := by
          rw [Array.getElem?_append_left (by simp)] at hv
          simpa using hv.symm
        subst e1 e2
        exact .int _ _ (hbd x).1 (hbd x).2
      | i + 1, hz, hv =>
        have hz' : ycaps[i]? = some z := by simpa using hz
        have hv' : cb[i]? = some v := by
          rw [Array.getElem?_append] at hv
          rw [if_neg (by simp)] at hv
          simpa using hv
        have hi : i < caps.length := by
          rw [g1]
          rcases Nat.lt_or_ge i ycaps.length with c | c
          · exact c
          · rw [List.getElem?_eq_none c] at hz'; cases hz'
        have hx' := List.getElem?_eq_getElem hi
        exact argOk_rep (st := ⟨st.n, st.s, st.h.set id none⟩) hkill (g2 i _ z hx' hz') (hcr i _ v hx' hv')
    have gives' : ∀ (W : World) (x : Int), (∀ b o, addOwn F φ (st.h.set id none) w b = some o → W.heap[b]? = some o) → FnGives P g cb #[Value.int .i64 (clampL (0 :: xs) x)] (.bool (pB f (clampL (0 :: xs) x))) W := fun W x h => gives W x ⟨h, hag.2⟩
    have hpa : PredAt P g cb (fun x => Value.int .i64 (clampL (0 :: xs) x)) (fun x => pB f (clampL (0 :: xs) x)) w := fun W x hbel => gives' W x fun b o hb' => by
      have hold := hag.1 b o hb'
      have hbs : b < w.heap.size := by
        rcases Nat.lt_or_ge b w.heap.size with c | c
        · exact c
        · rw [Array.getElem?_eq_none c] at hold; cases hold
      rw [hbel.block b hbs]; exact hold
    have hpo : PredOver P g cb (fun x => Value.int .i64 (clampL (0 :: xs) x)) (fun x => pB f (clampL (0 :: xs) x)) gb 0 xs.toArray.size w := fun m os dk x hs => gives' _ x fun b o hb' => by
      have hold := hag.1 b o hb'
      have hbs : b < w.heap.size := by
        rcases Nat.lt_or_ge b w.heap.size with c | c
        · exact c
        · rw [Array.getElem?_eq_none c] at hold; cases hold
      have hbg : b ≠ gb := fun q => by subst q; rw [hFno] at hb'; cases hb'
      exact (heap_putRowE _ dk m gb b os hbs hbg).trans hold
    have hzc : ∀ w, (zeroValue (ρ.t 23)).run P w = .ok ((fun x => Value.int .i64 (clampL (0 :: xs) x)) 0) w := fun w => by
      show _ = Result.ok (Value.int .i64 (clampL (0 :: xs) 0)) w
      rw [clampL_of (List.mem_cons_self ..)]; exact hzr w
    have esz : xs.toArray.size = xs.length := by simp
    have hS := AnyE.slices_DeleteFunc Ly (fun x => Value.int .i64 (clampL (0 :: xs) x)) (fun _ => rfl) (fun x => pB f (clampL (0 :: xs) x)) g cb hgc 0 hzc gb 0 cap xs.toArray w hpa hpo hHold2 (by rw [esz]; unfold maxLen at h2; omega) (by rw [esz]; omega)
    rw [esz, hn] at hS
    have efil : (xs.toArray.toList.filter fun x => !pB f (clampL (0 :: xs) x)) = delL f xs := by
      unfold delL
      refine List.filter_congr fun x hx => ?_
      rw [clampL_of (List.mem_cons_of_mem _ hx)]
    rw [efil] at hS
    refine hS.mono fun e w' ⟨he, k, hw⟩ => ?_
    subst he
    have hdl : (delL f xs).length ≤ xs.length := List.length_filter_le _ _
    have hl : (delL f xs ++ List.replicate (n - (delL f xs).length) 0).length = xs.length := by rw [List.length_append, List.length_replicate]; omega
    have hmem : ∀ y, y ∈ delL f xs ++ List.replicate (n - (delL f xs).length) (0 : Int) → y ∈ 0 :: xs := fun y hy => by
      rcases List.mem_append.1 hy with q | q
      · exact List.mem_cons_of_mem _ (List.mem_filter.1 q).1
      · rw [List.eq_of_mem_replicate q]; exact List.mem_cons_self ..
    rw [putRow_clamp (0 :: xs) _ (fun j hj => by
      refine hmem _ ?_
      rw [getElem!_pos _ j hj]
      simp)] at hw
    have hw2 : Go.Sort.grow (Go.Sort.putRow (Value.int .i64) (Go.Sort.ahead w k) gb 0 (delL f xs ++ List.replicate (n - (delL f xs).length) 0).toArray) #[] = w' := by
      rw [hw]; exact grow_none _
    have hR := hrel.heap.sorted (n := k) hb hφ' (ys := delL f xs ++ List.replicate (n - (delL f xs).length) 0) (by omega) (fun y hy => by
      rcases List.mem_cons.1 (hmem y hy) with e | e
      · rw [e]; decide
      · exact hrel.heap.bounds hb y e) #[]
    rw [hl, List.drop_length, List.append_nil, hw2] at hR
    rw [hdst]
    refine fin _ w' (.own _ _ gb cap _ _ hφ (by show (delL f xs).length ≤ cap; omega) h2) (by rw [hn]; exact hR) ⟨by rw [← hw2]; rfl, by rw [← hw2]; rfl, by rw [← hw2]; rfl, by rw [← hw2]; simp [Go.Sort.grow, Go.Sort.putRow, Go.Sort.mapBlock], fun k' hk => by rw [← hw2]; exact heap_putRowE _ _ _ gb _ #[] (by omega) (by omega)⟩
end Go.AX
