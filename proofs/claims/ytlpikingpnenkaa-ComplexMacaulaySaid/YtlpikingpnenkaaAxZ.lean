/-
 The library's Clone at a list that came in: a new row of the call's own. Conditions: the text of Clone lies in the program as the kit's shelf has it.
-/
import Derived.Test.YtlpikingpnenkaaAxP
set_option linter.unusedSimpArgs false
set_option linter.unusedVariables false
namespace Go.AX
open Go Go.RowKit
variable {F : Fz} {φ : Phi} {w : World}
theorem agree_cellZ {F : Fz} {W : World} (h : ∀ b o, F b = some o → W.heap[b]? = some o) {a : Addr} {v : Value} (hc : cellF F a = some v) : W.cell? a = some v := by
 unfold cellF at hc
 split at hc
 ·rename_i c u z hF
  unfold World.cell?
  rw [h _ _ hF]
  exact hc
 ·cases hc
theorem addr_plainZ {W : World} {a : Addr} {v : Value} (h : W.cell? a = some v) : a = ⟨a.block, a.off, none⟩ := by
 unfold World.cell? at h
 split at h
 ·split at h
  ·cases h
  ·rename_i q
   cases a with
   | mk b o s => cases s with
    | none => rfl
    | some x => simp at q
 ·cases h
/-- The cells of a list that came in. -/
theorem ints_cells {base : Nat} {H : List (Option Blk)} (h : RelH F φ base H w) {xs : List Int} {v : Value} (hv : RepV F φ (.ints .i64 xs) v) :
  (∃ A c, v = .slice A 0 c ∧ xs = []) ∨ ∃ b o c, v = .slice (some ⟨b, o, none⟩) xs.length c ∧ xs.length ≤ c ∧ c ≤ maxLen ∧ ∀ j, j < xs.length → w.cell? ⟨b, o + j, none⟩ = some (.int .i64 (xs.getD j 0)) ∧ lo .i64 ≤ xs.getD j 0 ∧ xs.getD j 0 ≤ hi .i64 := by
 cases hv with
 | ints _ _ _ r0 =>
  cases r0 with
  | imm _ _ A n c q k1 k2 k3 k4 k5 k6 k7 =>
   have hn : n = xs.length := by rw [k1]; simp [intEs]
   subst hn
   have cell : ∀ ad2, A = some ad2 → ∀ i, i < xs.length → w.cell? (ad2.add i) = some (.int .i64 (xs.getD i 0)) ∧ lo .i64 ≤ xs.getD i 0 ∧ xs.getD i 0 ≤ hi .i64 := fun ad2 hA i hi => by
    have hes : (intEs .i64 xs)[i]? = some [.int .i64 (xs.getD i 0)] := by
     rw [List.getD_eq_getElem?_getD, List.getElem?_eq_getElem hi]
     simp [intEs, List.getElem?_eq_getElem hi]
    have d1 := agree_cellZ h.agree (k6 ad2 i _ 0 _ hA hes rfl).1
    have d2 := k7 i _ 0 _ hes rfl
    rw [Nat.mul_one, Nat.add_zero] at d1
    obtain ⟨e, d3⟩ := int_inv d2
    rw [e] at d1
    exact ⟨d1, d3⟩
   rcases Nat.eq_zero_or_pos xs.length with h0 | hpos
   ·have hxs : xs = [] := List.eq_nil_of_length_eq_zero h0
    exact .inl ⟨A, c, by rw [h0], hxs⟩
   ·obtain ⟨ad2, rfl⟩ : ∃ ad2, A = some ad2 := Option.ne_none_iff_exists'.1 (k5 hpos)
    have cz := (cell ad2 rfl 0 hpos).1
    have ez : ad2.add 0 = ad2 := rfl
    rw [ez] at cz
    have hp2 := addr_plainZ cz
    refine .inr ⟨ad2.block, ad2.off, c, by rw [← hp2], k2, k3, fun i hi => ?_⟩
    have := cell ad2 rfl i hi
    have e : ad2.add i = ⟨ad2.block, ad2.off + i, none⟩ := by
     unfold Addr.add
     by_cases hz : i = 0
     ·subst hz; rw [if_pos rfl]; exact hp2
     ·rw [if_neg hz]
    rw [e] at this
    exact this
/-- A call of Clone at a list that came in. -/
theorem cloneI_call {P : Program} {ρ : Go.Shelf.Ren} (Ly : Go.Proofs.Lays2.n15 P ρ) {base : Nat} {H : List (Option Blk)} (h : RelH F φ base H w) (hbs : base ≤ w.heap.size) {xs : List Int} {v : Value} (hv : RepV F φ (.ints .i64 xs) v) (hm : xs.length ≤ 17592186044416) :
  Calls P (ρ.f 15) #[v] w fun e w' => ∃ v' φ', e = .returned v' ∧ PLe φ φ' ∧ RelH F φ' base (H ++ [some (.ints (ρ.t 3) .i64 xs)]) w' ∧ RepV F φ' (.own H.length xs.length) v' ∧ Below base w w' := by
 have own : ∀ {w' : World} {v' : Value} {n : Nat}, n = xs.length → (∀ y, y ∈ xs → lo .i64 ≤ y ∧ y ≤ hi .i64) → w'.ownsRow w.heap.size (ρ.t 3) 1 v' n (xs.map (Value.int .i64)) → v' ≠ .slice none 0 0 → Below w.heap.size w w' →
   ∃ φ', PLe φ φ' ∧ RelH F φ' base (H ++ [some (.ints (ρ.t 3) .i64 xs)]) w' ∧ RepV F φ' (.own H.length xs.length) v' ∧ Below base w w' := by
  intro w' v' n hn hxb hown hne hbel
  subst hn
  have hw' := h.belowR hbel
  have hbel2 : Below base w w' := ⟨hbel.os, hbel.tape, hbel.output, hbel.size, fun k hk => hbel.block k (by omega)⟩
  rcases hown.2 with ⟨rfl, h0⟩ | ⟨g2, cap2, cur2, rfl, q1, q2, q3, q4, q5, q6⟩
  ·exact absurd rfl hne
  ·have hFn : F g2 = none := by
    cases hF : F g2 with
    | none => rfl
    | some o => have := h.lt hF; omega
   have hok : BlkOk F (upd φ H.length (.at g2 cap2 1 (ρ.t 3))) base w' H.length (.ints (ρ.t 3) .i64 xs) := by
    refine .inr (.inl ⟨g2, cap2, cur2, by simp [upd, Blk.sz, Blk.et], by omega, hFn, q2, by simp [Blk.es, intEs]; omega, q4, by simpa [Blk.sz] using q5, fun i e' he' => ?_⟩)
    simp only [Blk.es, intEs, List.getElem?_map, Option.map_eq_some_iff] at he'
    obtain ⟨y, hy, rfl⟩ := he'
    refine ⟨rfl, fun j x hx => ?_⟩
    have hj : j = 0 := by
     rcases Nat.eq_zero_or_pos j with c | c
     ·exact c
     ·rw [List.getElem?_eq_none (by simp; omega)] at hx; cases hx
    subst hj
    simp at hx; subst hx
    have hi := (List.getElem?_eq_some_iff.1 hy).1
    have hcell : cur2.toList[i]? = some (.int .i64 y) := by
     have : (cur2.toList.take (xs.length * 1))[i]? = some (.int .i64 y) := by rw [q6, List.getElem?_map, hy]; rfl
     rw [List.getElem?_take] at this
     split at this
     ·exact this
     ·cases this
    have hyb := hxb y (List.mem_of_getElem? hy)
    exact ⟨.int .i64 y, by simpa [Blk.sz] using hcell, .int _ _ hyb.1 hyb.2, rfl⟩
   have hnew : ∀ i bi g, H[i]? = some (some bi) → (φ i).occ g → ¬ (Loc.at g2 cap2 1 (ρ.t 3)).occ g := by
    intro i bi g3 hi hg3 hl
    have e1 : g3 = g2 := hl
    subst e1
    have := h.occ_lt hi hg3
    omega
   obtain ⟨h3, h4⟩ := hw'.adoptL _ _ hok hnew
   exact ⟨_, h4, h3, .own _ _ g2 cap2 1 (ρ.t 3) (by simp [upd]) q3 q4, hbel2⟩
 rcases ints_cells h hv with ⟨A, c, rfl, rfl⟩ | ⟨b, o, c, rfl, hc1, hc2, hc3⟩
 ·cases A with
  | none =>
   refine (Go.Proofs.Any.slices_Clone_int_nil Ly 0 c w).mono fun e w' ⟨he, hw⟩ => ?_
   subst hw
   obtain ⟨h1, h2⟩ := h.adoptL (.ints (ρ.t 3) .i64 []) .nils (.inl ⟨by simp [upd], by simp [Blk.es, intEs]⟩) (fun _ _ _ _ _ h => h)
   exact ⟨_, _, he, h2, h1, .ownNil _ (by simp [upd]), Below.refl _ _⟩
  | some ad =>
   refine (Go.Proofs.Any.slices_Clone_int_zero Ly ad c w).mono fun e w' ⟨v', he, hown, hne, hbel⟩ => ?_
   obtain ⟨φ', k1, k2, k3, k4⟩ := own rfl (fun y hy => by simp at hy) hown hne hbel
   exact ⟨v', φ', he, k1, k2, k3, k4⟩
 ·refine (Go.Proofs.Any.slices_Clone_int Ly b o xs.length c xs w (Nat.le_refl _) (by omega) fun j hj => (hc3 j hj).1).mono fun e w' ⟨v', he, hown, hne, hbel⟩ => ?_
  rw [List.take_length] at hown
  obtain ⟨φ', k1, k2, k3, k4⟩ := own rfl (fun y hy => by
   obtain ⟨j, hj, rfl⟩ := List.getElem_of_mem hy
   have := (hc3 j hj).2
   rw [List.getD_eq_getElem?_getD, List.getElem?_eq_getElem hj] at this
   exact this) hown hne hbel
  exact ⟨v', φ', he, k1, k2, k3, k4⟩
theorem AWPL_cloneI (K : List Nat) {P : Program} {w0 : World} {st : St} {all : Array Oper} {Q : Exit → St → Prop} {rest : List Oper} {o : Oper} {fo x : Operand} {tys : Array TypeId} {d : Nat} {xs : List Int} {ρ : Go.Shelf.Ren} (et' : TypeId) (Ly : Go.Proofs.Lays2.n15 P ρ)
  (hop : o.op = .call ⟨.value fo, #[x], tys⟩) (hdst : o.dst = some d) (hpc : pcOf all st.s o.guard = (true, true)) (hf : opd st.s fo = .func (ρ.f 15) []) (hcall : ∀ args w, (callFunc (ρ.f 15) args).run P w = .ok (.enter (ρ.f 15) args) w) (hd : d < st.n)
  (hx : opd st.s x = .ints .i64 xs) (hm : xs.length ≤ 17592186044416) (het : ρ.t 3 = et')
  (h : ∀ st', (⟨st.n, keepL K (putL st.s d (.own st.h.length xs.length)), st.h ++ [some (.ints et' .i64 xs)]⟩ : St) = st' → AWPL P w0 all Q rest st') : AWPL P w0 all Q (o :: rest) st :=
 AWPL_prim K hop hdst hpc hf hcall hd (fun F φ w v hr hbs hv => by
  rw [hx] at hv
  rw [← het]
  exact cloneI_call Ly hr hbs hv hm) h
end Go.AX
