/-
  The library's SortFunc at a row of the call's own of numbers below 256, by a comparison without captures that tells an order of them all. Conditions: SortFunc's text as the kit's shelf has it; the comparison reads and may draw.
-/
import Derived.Test.YtabhcjpjoknihaaAxP
import Derived.Shelf.SlSortCmp.NoneTotal
set_option linter.unusedSimpArgs false
set_option linter.unusedVariables false
namespace Go.AX
open Go Go.RowKit Go.Proofs

def cmpK (a b : Nat) : Int := if a < b then -1 else if b < a then 1 else 0
/-- Numbers below 256; the comparison is by a key, which tells them apart. -/
structure SrtOk (f : Int → Int → Option Int) (xs : List Int) : Prop where
  lt : ∀ x, x ∈ xs → 0 ≤ x ∧ x < 256
  key : ∃ k : Fin 256 → Nat, (∀ i j, k i = k j → i = j) ∧ ∀ i j : Fin 256, f (i.val : Int) (j.val : Int) = some (cmpK (k i) (k j))
noncomputable instance (f : Int → Int → Option Int) (xs : List Int) : Decidable (SrtOk f xs) := Classical.propDecidable _
/-- In that order. -/
def srtL (f : Int → Int → Option Int) (xs : List Int) : List Int := xs.mergeSort fun x y => decide ((f x y).getD 0 ≤ 0)
theorem srtL_len (f : Int → Int → Option Int) (xs : List Int) : (srtL f xs).length = xs.length := List.length_mergeSort _
/-- A comparison that reads and may draw, and no more: what it answers. -/
def PureC (P : Program) (g : FuncId) (f : Int → Int → Option Int) : Prop :=
  ∀ (x y r : Int) (W : World), 0 ≤ x → x < 256 → 0 ≤ y → y < 256 → f x y = some r → Calls P g #[.int .i64 x, .int .i64 y] W fun e w' => e = .returned (.int .i64 r) ∧ ∃ q, w' = W.drewN q

section
variable {P : Program} {F : Fz} {φ : Phi} {w0 w : World} {st : St}
def tf (x : Int) : Fin 256 := ⟨x.toNat % 256, Nat.mod_lt _ (by omega)⟩
def ef (i : Fin 256) : Value := .int .i64 (i.val : Int)
theorem tf_of {x : Int} (h : 0 ≤ x ∧ x < 256) : ((tf x).val : Int) = x := by unfold tf; simp only; omega
theorem putRow_tf (d : Array (Fin 256)) (ys : Array Int) (hs : d.size = ys.size) (hd : ∀ j, j < d.size → (d[j]!.val : Int) = ys[j]!) (w : World) (g : Nat) : Go.Sort.putRow ef w g 0 d = Go.Sort.putRow (Value.int .i64) w g 0 ys := by
  unfold Go.Sort.putRow
  congr 1
  funext c
  unfold Go.Sort.putCells
  apply Array.ext
  · simp
  · intro k h1 h2
    simp only [Array.getElem_mapIdx, hs]
    split
    · rename_i q
      rw [← hd _ (by omega)]
      rfl
    · rfl
theorem srt_call {ρ : Go.Shelf.Ren} (L : SlLaysF.n6 P ρ) {base : Nat} {H : List (Option Blk)} (h : RelH F φ base H w) {id : Nat} {et : TypeId} {xs : List Int} (hb : H[id]? = some (some (.ints et .i64 xs))) {v : Value} (hv : RepV F φ (.own id xs.length) v) (hm : xs.length < 4611686018427387904) {f : Int → Int → Option Int} (ho : SrtOk f xs) {g : Nat} (hP : PureC P g f) (eg : ∀ args w, (callFunc g args).run P w = .ok (.enter g args) w) :
    Calls P (ρ.f 6) #[v, .func (.func g) #[] #[]] w fun e w' => e = .returned (.tuple #[]) ∧ RelH F φ base (H.set id (some (.ints et .i64 (srtL f xs)))) w' ∧ Below base w w' := by
  obtain ⟨hlt, key, kinj, kf⟩ := ho
  generalize hn : xs.length = n at hv
  cases hv with
  | ownNil _ h1 =>
    refine (AnyF.slices_SortFunc_none { L with } none 0 _ w).mono fun e w' ⟨he, hw⟩ => ⟨he, ?_, ?_⟩
    · subst hw
      have hx : xs = [] := List.length_eq_zero_iff.1 hn
      subst hx
      have : H.set id (some (.ints et .i64 (srtL f []))) = H := by
        unfold srtL
        rw [List.mergeSort_nil]
        apply List.ext_getElem?
        intro i
        rw [List.getElem?_set]
        split
        · rename_i c
          subst c
          rw [hb]
          split
          · rfl
          · rename_i c; rw [List.getElem?_eq_none (by omega)] at hb; cases hb
        · rfl
      rw [this]; exact h
    · subst hw; exact Below.refl _ _
  | own _ _ gb cap sz et' hφ h1 h2 =>
    rcases (h.blk id _ hb).nxC rfl with ⟨q, _⟩ | ⟨g', cap', cur, q, hbase, hF, hcur, hlen, hcap, hsz, hel⟩
    · rw [hφ] at q; cases q
    rw [hφ] at q
    cases q
    have hgs : gb < w.heap.size := by
      rcases Nat.lt_or_ge gb w.heap.size with c | c
      · exact c
      · rw [Array.getElem?_eq_none c] at hcur; cases hcur
    have dsz : (xs.map tf).toArray.size = n := by simp [hn]
    have hH : Go.Sort.Holds ef w gb 0 (xs.map tf).toArray := fun j hj => by
      have hjx : j < xs.length := by rw [dsz] at hj; omega
      obtain ⟨_, k2⟩ := hel j [.int .i64 xs[j]] (by simp [Blk.es, intEs, List.getElem?_eq_getElem hjx])
      obtain ⟨u, u1, u2, _⟩ := k2 0 _ rfl
      obtain ⟨hu, _⟩ := int_inv u2
      subst hu
      simp only [Blk.sz, Nat.mul_one, Nat.add_zero] at u1
      have e1 : ef ((xs.map tf).toArray[j]!) = .int .i64 xs[j] := by
        rw [getElem!_pos _ j hj]
        simp only [List.getElem_toArray, List.getElem_map]
        unfold ef
        rw [tf_of (hlt _ (List.getElem_mem hjx))]
      refine ⟨?_, ?_⟩
      · rw [e1]
        simp [World.cell?, hcur, u1]
      · simp [World.frozen?, hcur]
    have swo : Go.Sort.SWO (ltOf fun i j : Fin 256 => cmpK (key i) (key j)) := by
      have e : ∀ i j : Fin 256, ltOf (fun i j : Fin 256 => cmpK (key i) (key j)) i j = decide (key i < key j) := fun i j => by
        unfold ltOf cmpK
        rw [Bool.eq_iff_iff, decide_eq_true_eq, decide_eq_true_eq]
        dsimp only
        by_cases c1 : key i < key j
        · simp [c1]
        · by_cases c2 : key j < key i <;> simp [c1, c2]
      constructor <;> simp only [e, decide_eq_true_eq, decide_eq_false_iff_not] <;> (intros; omega)
    have hcmp : CmpLays1 P g #[] ef (fun i j : Fin 256 => cmpK (key i) (key j)) gb 0 (xs.map tf).toArray.size w := by
      intro m os dk hs x y
      refine (hP (x.val : Int) (y.val : Int) _ _ (by omega) (by have := x.isLt; omega) (by omega) (by have := y.isLt; omega) (kf x y)).mono fun e w' ⟨he, q, hw⟩ => ⟨he, q, #[], by rw [hw]; simp⟩
    have hT : ∀ x y : Fin 256, (ltOf fun i j : Fin 256 => cmpK (key i) (key j)) x y = false → (ltOf fun i j : Fin 256 => cmpK (key i) (key j)) y x = false → x = y := fun x y a1 a2 => by
      refine kinj _ _ ?_
      unfold ltOf cmpK at a1 a2
      simp only [decide_eq_false_iff_not] at a1 a2
      by_cases c1 : key x < key y
      · rw [if_pos c1] at a1; omega
      · by_cases c2 : key y < key x
        · rw [if_pos c2] at a2; omega
        · omega
    have hc := Any.slices_SortFunc_total L ef (fun _ => rfl) (fun i j : Fin 256 => cmpK (key i) (key j)) swo g #[] gb 0 cap (xs.map tf).toArray w eg hcmp hH hgs (by rw [dsz]; omega) hT
    rw [dsz] at hc
    refine hc.mono fun e w' ⟨he, m, os, hw⟩ => ⟨he, ?_⟩
    have hmap : ((xs.map tf).mergeSort fun x y => !(ltOf fun i j : Fin 256 => cmpK (key i) (key j)) y x).map (fun i => (i.val : Int)) = srtL f xs := by
      unfold srtL
      rw [List.map_mergeSort (s := fun x y => decide ((f x y).getD 0 ≤ 0)) (f := fun i : Fin 256 => (i.val : Int)) fun a _ b _ => ?_]
      · congr 1
        rw [List.map_map]
        exact (List.map_congr_left fun x hx => by simp only [Function.comp]; exact tf_of (hlt x hx)).trans (List.map_id _)
      · rw [kf]
        unfold ltOf cmpK
        simp only [Option.getD_some]
        rw [Bool.eq_iff_iff, decide_eq_true_eq, Bool.not_eq_true', decide_eq_false_iff_not]
        by_cases c1 : key a < key b
        · have c2 : ¬ key b < key a := by omega
          simp [c1, c2]
        · by_cases c2 : key b < key a <;> simp [c1, c2]
    have hl2 : (srtL f xs).length = xs.length := srtL_len f xs
    have hms : ∀ y, y ∈ srtL f xs → y ∈ xs := fun y hy => (List.mergeSort_perm _ _).mem_iff.1 hy
    unfold sortWorld at hw
    rw [putRow_tf _ (srtL f xs).toArray (by simp [hl2]) (fun j hj => by
      have hj' : j < (srtL f xs).length := by simpa [hl2] using hj
      rw [getElem!_pos _ j hj, getElem!_pos _ j (by simpa using hj')]
      simp only [List.getElem_toArray, ← hmap, List.getElem_map])] at hw
    subst hw
    refine ⟨?_, ?_⟩
    · have := h.sorted (n := m) hb hφ (ys := srtL f xs) (by omega) (fun y hy => h.bounds hb y (hms y hy)) os
      rw [hl2, List.drop_length, List.append_nil] at this
      exact this
    · refine ⟨rfl, rfl, rfl, ?_, fun k hk => ?_⟩
      · simp [Go.Sort.grow, Go.Sort.putRow, Go.Sort.mapBlock]
      · rw [heap_putRow _ _ _ _ _ (by omega), if_neg (by omega)]
theorem AWPL_srt (K : List Nat) {ρ : Go.Shelf.Ren} (L : SlLaysF.n6 P ρ) {all : Array Oper} {Q : Exit → St → Prop} {rest : List Oper} {o : Oper} {fo xo fx : Operand} {tys : Array TypeId} {d id g : Nat} {et : TypeId} {xs : List Int} {f : Int → Int → Option Int}
    (hop : o.op = .call ⟨.value fo, #[xo, fx], tys⟩) (hdst : o.dst = some d) (hpc : pcOf all st.s o.guard = (true, true)) (hf : opd st.s fo = .func (ρ.f 6) []) (hcall : ∀ args w, (callFunc (ρ.f 6) args).run P w = .ok (.enter (ρ.f 6) args) w) (hd : d < st.n)
    (hx : opd st.s xo = .own id xs.length) (hb : st.h[id]? = some (some (.ints et .i64 xs))) (hg : opd st.s fx = .func g []) (hgc : ∀ args w, (callFunc g args).run P w = .ok (.enter g args) w)
    (hP : PureC P g f) (ho : SrtOk f xs ∧ xs.length < 4611686018427387904)
    (h : ∀ st', (⟨st.n, keepL K (putL st.s d (.tup [])), st.h.set id (some (.ints et .i64 (srtL f xs)))⟩ : St) = st' → AWPL P w0 all Q rest st') : AWPL P w0 all Q (o :: rest) st := by
  intro F φ a w hrel
  have hwant : Region.wanted o (yielded all a.tmps) = true := by rw [pc_wanted hrel (by rw [hpc]), hpc]
  refine wpList_step fun K' hK => ?_
  rw [if_pos hwant]
  have hcv : ∀ {x : Operand} {k : Nat}, opd st.s x = .func k [] → a.eval x = .func (.func k) #[] #[] := fun {x k} hxf => by
    have hfr := opd_rep hrel x
    rw [hxf] at hfr
    generalize a.eval x = u at hfr
    cases hfr with | func _ _ vs h1 h2 =>
      have : vs = #[] := by
        apply Array.eq_empty_of_size_eq_zero; simpa using h1.symm
      rw [this]
  have hrun : (execOp a.eval o).run P w = .ok (.enter (ρ.f 6) #[a.eval xo, a.eval fx]) w := by
    simp only [execOp, hop, resolve, hcv hf, Deferred.ofValue, Sem.run_bind, Sem.run_pure, Result.andThen_ok, invoke, Array.empty_append, hcall]
    simp
  unfold Oper.wp
  rw [hrun]
  have hxr := opd_rep hrel xo
  rw [hx] at hxr
  rw [hcv hg]
  refine (srt_call L hrel.heap hb hxr ho.2 ho.1 hP hgc).mono fun e w' ⟨he, k1, k2⟩ => ?_
  subst he
  refine hK _ _ ?_
  have := Rel.put (st := { st with h := st.h.set id (some (.ints et .i64 (srtL f xs))) }) (d := d) (x := .tup []) (v := .tuple #[]) ⟨k1, hrel.size, fun i => (hrel.slots i).le (FLe.refl F) (PLe.refl φ), hrel.defers, hrel.below.trans k2⟩ hd (.tup _ _ rfl fun i x v hx => by simp at hx)
  rw [hdst]
  exact h _ rfl F _ _ w' (this.keep K)
end
end Go.AX
