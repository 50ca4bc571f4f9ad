/-
  Functions that take a row of the caller's own for good: what is said of them, how it is shown, how they are called. Conditions: none.
-/
import Derived.Test.YtabhcjpjoknihaaAxR
set_option linter.unusedSimpArgs false
set_option linter.unusedVariables false
namespace Go.AX
open Go Go.RowKit
section
variable {P : Program} {T : Tab} {F : Fz} {φ : Phi} {w0 w : World}

/-- Handed a row of the caller's own (the first block) and 'args', it answers r over the new blocks H; what else was there stays. -/
def ConsP (P : Program) (f : FuncId) (et : TypeId) (xs : List Int) (args : List AVal) (r : AVal) (H : List Blk) : Prop :=
  ∀ (w0 w : World) (F : Fz) (φ : Phi) (vs : Array Value), Below w0.heap.size w0 w → RelH F φ w0.heap.size [some (.ints et .i64 xs)] w → args.length = vs.size → (∀ (i : Nat) (x : AVal) (v : Value), args[i]? = some x → vs[i]? = some v → RepV F φ x v) →
    Calls P f vs w fun e w' => ∃ v F' φ', e = .returned v ∧ FLe F F' ∧ RelH F' φ' w0.heap.size (H.map some) w' ∧ RepV F' φ' r v ∧ Below w0.heap.size w0 w'

theorem Cons_intro (hT : TabOk P T) {f : FuncId} {fn : Func} {c : Code} {n : Nat} {l : List ResultVar} {et : TypeId} {xs : List Int} {args : List AVal} {r : AVal} {H : List Blk} (hf : P.funcs[f]? = some fn) (hb : fn.body = some c) (hn : fn.ntmps = n) (hl : fn.results = l.toArray)
    (hle : args.length ≤ n) (h : ∀ w0, AWP P w0 c (Ends T l r H) ⟨n, enumA 0 args, [some (.ints et .i64 xs)]⟩) : ConsP P f et xs args r H := by
  intro w0 w F φ vs hbel hrelh hlen hargs
  refine calls_of_wp hf hb ?_
  refine wp_mono (h w0 F φ _ w ⟨hrelh, ?_, fun i => ?_, rfl, hbel⟩) ?_
  · simp; omega
  · show RepV F φ (look (enumA 0 args) i) _
    rw [look_enumA, if_pos (Nat.zero_le _), Nat.sub_zero]
    cases hi : args[i]? with
    | none => exact .junk _
    | some x =>
      have hil : i < vs.size := by
        rw [← hlen]
        rcases Nat.lt_or_ge i args.length with q | q
        · exact q
        · rw [List.getElem?_eq_none q] at hi; cases hi
      have hv : vs[i]? = some vs[i] := Array.getElem?_eq_getElem hil
      have : (vs ++ Array.replicate (fn.ntmps - vs.size) undef).getD i undef = vs[i] := by
        rw [Array.getD_eq_getD_getElem?, Array.getElem?_append_left hil, hv]; rfl
      rw [this]
      exact hargs i x _ hi hv
  · intro e a' w' hq
    obtain ⟨st', F', φ', ⟨he, hc, ρ, hr, hw⟩, hF, hrel⟩ := hq
    obtain ⟨v, v1, v2⟩ := res_ok hT hrel hl hc
    have hbig : φ' bigId = .unused := hrel.heap.unused _ hw.big
    rw [hr] at v2
    have hrel' : Rel F' φ' w0 { st' with s := [] } a' w' := ⟨hrel.heap, hrel.size, fun i => .junk _, hrel.defers, hrel.below⟩
    have hR : ∃ v2 F' φ', Ending.returned v = .returned v2 ∧ FLe F F' ∧ RelH F' φ' w0.heap.size (H.map some) w' ∧ RepV F' φ' r v2 ∧ Below w0.heap.size w0 w' := ⟨v, F', _, rfl, hF, (hrel'.wk hw).heap, ren_rep hbig v2, hrel.below⟩
    rcases he with rfl | rfl
    · exact ⟨hrel.defers, v, v1, hR⟩
    · exact ⟨hrel.defers, v, v1, hR⟩

/-- The caller's state behind such a call: the row is gone, the new blocks are there. -/
theorem RelH.backC {base : Nat} {H : List (Option Blk)} {H' : List Blk} (h : RelH F φ base H w) {F' : Fz} {φ' : Phi} {w' : World} (hF : FLe (addOwn F φ H w) F') (h' : RelH F' φ' base (H'.map some) w') (hn : ∀ b ∈ H', nIB b = true) :
    RelH F (phiS φ φ' H.length) base (H ++ H'.map fun b => some (shB H.length b)) w' ∧ PLe φ (phiS φ φ' H.length) := by
  have hle : PLe φ (phiS φ φ' H.length) := fun id hu => by
    unfold phiS
    rcases Nat.lt_or_ge id H.length with q | q
    · rw [if_pos q]
    · exact absurd (h.unused id q) hu
  have hFn : ∀ g, F' g = none → F g = none := fun g hg => by
    cases hq : F g with
    | none => rfl
    | some o =>
      have := hF g o (by simp [addOwn, hq])
      rw [hg] at this; cases this
  have kept : ∀ {id : Nat} {b : Blk} {g : Nat}, H[id]? = some (some b) → (φ id).occ g → w'.heap[g]? = w.heap[g]? ∧ F' g ≠ none := by
    intro id b g hb hg
    have h1 := addOwn_occ h hb hg
    have hlt := h.occ_lt hb hg
    have h2 : addOwn F φ H w g = some w.heap[g] := by rw [h1]; exact Array.getElem?_eq_getElem hlt
    have h3 := hF g _ h2
    refine ⟨?_, by rw [h3]; simp⟩
    rw [h'.agree g _ h3, Array.getElem?_eq_getElem hlt]
  have new : ∀ (id : Nat) (b : Blk), (H ++ H'.map fun b => some (shB H.length b))[id]? = some (some b) → (id < H.length ∧ H[id]? = some (some b)) ∨ (H.length ≤ id ∧ ∃ b', (H'.map some)[id - H.length]? = some (some b') ∧ b = shB H.length b' ∧ b' ∈ H') := by
    intro id b hb
    rw [List.getElem?_append] at hb
    split at hb
    · rename_i q; exact .inl ⟨q, hb⟩
    · rename_i q
      rw [List.getElem?_map] at hb
      cases hq : H'[id - H.length]? with
      | none => rw [hq] at hb; cases hb
      | some b' =>
        rw [hq] at hb; simp at hb; subst hb
        exact .inr ⟨by omega, b', by rw [List.getElem?_map, hq]; rfl, rfl, List.mem_of_getElem? hq⟩
  refine ⟨⟨fun b o hbo => h'.agree b o (hF b o (by simp [addOwn, hbo])), fun id hid => ?_, fun id b hbk => ?_, fun i j bi bj g hi hj h1 h2 => ?_, h.good, fun j i l hj => by
    have hlt : ∀ {m l}, φ m = l → l ≠ .unused → m < H.length := fun {m l} e ne => by
      rcases Nat.lt_or_ge m H.length with c | c
      · exact c
      · rw [h.unused m c] at e; exact absurd e.symm ne
    rw [List.getElem?_append] at hj
    split at hj
    · have := h.pins j i l hj
      exact ⟨by unfold phiS; rw [if_pos (hlt this.1 this.2)]; exact this.1, this.2⟩
    · rw [List.getElem?_map] at hj
      cases hq : H'[j - H.length]? with
      | none => rw [hq] at hj; cases hj
      | some b' => rw [hq] at hj; simp only [Option.map_some, Option.some.injEq] at hj; cases b' <;> simp [shB] at hj⟩, hle⟩
  · simp only [List.length_append, List.length_map] at hid
    unfold phiS
    rw [if_neg (by omega)]
    exact h'.unused _ (by simp; omega)
  · rcases new id b hbk with ⟨q1, q2⟩ | ⟨q1, b', q2, rfl, q3⟩
    · exact (h.blk id b q2).le (FLe.refl F) hle (fun _ _ hg _ => hg) fun x hx => (kept q2 hx).1
    · obtain ⟨e1, e2, e3⟩ := shB_es H.length b'
      have hph : phiS φ φ' H.length id = φ' (id - H.length) := by unfold phiS; rw [if_neg (by omega)]
      rcases h'.blk _ b' q2 with ⟨p1, p2⟩ | ⟨g, cap, cur, p1, p2, p3, p4, p5, p6, p7, p8⟩ | hX
      rotate_left 2
      · refine .inr (.inr ?_)
        have hx : BlkX F (phiS φ φ' H.length) base w' id b' := hX.le hph (fun x hx => ⟨(hX.occ hx).1, hFn x (hX.occ hx).2.1⟩) fun x _ => rfl
        cases b' <;> first | exact hx | exact False.elim hX
      · exact .inl ⟨by rw [hph]; exact p1, by rw [e1, p2]; rfl⟩
      · refine .inr (.inl ⟨g, cap, cur, by rw [hph, e2, e3]; exact p1, p2, hFn g p3, by rw [e3]; exact p4, by rw [e1]; simpa using p5, p6, by rw [e2]; exact p7, fun i e he => ?_⟩)
        rw [e1, List.getElem?_map] at he
        cases hq : b'.es[i]? with
        | none => rw [hq] at he; cases he
        | some e' =>
          rw [hq] at he; simp at he; subst he
          refine ⟨by rw [e2]; simpa using (p8 i e' hq).1, fun j x hx => ?_⟩
          rw [List.getElem?_map] at hx
          cases hq2 : e'[j]? with
          | none => rw [hq2] at hx; cases hx
          | some y =>
            rw [hq2] at hx; simp at hx; subst hx
            obtain ⟨u, u1, u2, u3⟩ := (p8 i e' hq).2 j y hq2
            have hnI : nI0 y = true := by
              have := hn b' q3
              cases b' with
              | ints et k xs =>
                simp only [Blk.es, intEs, List.getElem?_map, Option.map_eq_some_iff] at hq
                obtain ⟨n, _, rfl⟩ := hq
                match j, hq2 with
                | 0, hq2 => simp at hq2; subst hq2; rfl
              | pin _ _ => simp [nIB] at this
              | xo _ =>
                match i, hq with
                | 0, hq => simp [Blk.es] at hq; subst hq; simp at hq2
              | rows _ _ _ =>
                match i, hq with
                | 0, hq => simp [Blk.es] at hq; subst hq; simp at hq2
              | outs et rid n f len =>
                simp only [Blk.es, fnEs, List.getElem?_map, Option.map_eq_some_iff] at hq
                obtain ⟨m, _, rfl⟩ := hq
                match j, hq2 with
                | 0, hq2 =>
                  simp only [outE, List.getElem?_cons_zero, Option.some.injEq] at hq2
                  subst hq2
                  split <;> rfl
              | gen et sz es =>
                have h1 := List.all_eq_true.1 this e' (List.mem_of_getElem? hq)
                exact all_get h1 hq2
            exact ⟨u, by rw [e2]; exact u1, sh0_rep hnI u2, u3⟩
  · rcases new i bi hi with ⟨q1, q2⟩ | ⟨q1, b1, q2, _, _⟩ <;> rcases new j bj hj with ⟨r1, r2⟩ | ⟨r1, b2, r2, _, _⟩
    · unfold phiS at h1 h2; rw [if_pos q1] at h1; rw [if_pos r1] at h2; exact h.sep i j _ _ g q2 r2 h1 h2
    · unfold phiS at h1 h2; rw [if_pos q1] at h1; rw [if_neg (by omega)] at h2
      have a1 := (kept q2 h1).2
      exact absurd ((h'.blk _ b2 r2).occ h2).2.1 a1
    · unfold phiS at h1 h2; rw [if_neg (by omega)] at h1; rw [if_pos r1] at h2
      have a1 := (kept r2 h2).2
      exact absurd ((h'.blk _ b1 q2).occ h1).2.1 a1
    · unfold phiS at h1 h2; rw [if_neg (by omega)] at h1; rw [if_neg (by omega)] at h2
      have := h'.sep _ _ b1 b2 g q2 r2 h1 h2
      omega

/-- What the callee sees of what is handed in: block id is its first one. -/
inductive ArgsC (H : List (Option Blk)) (id : Nat) : List AVal → List AVal → Prop
  | nil : ArgsC H id [] []
  | own {n : Nat} {l m : List AVal} : ArgsC H id l m → ArgsC H id (.own id n :: l) (.own 0 n :: m)
  | cons {x y : AVal} {l m : List AVal} : ArgOk H x y → ArgsC H id l m → ArgsC H id (x :: l) (y :: m)
theorem ArgsC.get {H : List (Option Blk)} {id : Nat} : ∀ {l m : List AVal}, ArgsC H id l m → l.length = m.length ∧ ∀ (i : Nat) (x y : AVal), l[i]? = some x → m[i]? = some y → (∃ n, x = .own id n ∧ y = .own 0 n) ∨ ArgOk H x y
  | _, _, .nil => ⟨rfl, fun i x y h => by simp at h⟩
  | _, _, .own t => by
    obtain ⟨h1, h2⟩ := t.get
    refine ⟨by simp [h1], fun i u v hu hv => ?_⟩
    match i, hu, hv with
    | 0, hu, hv => simp at hu hv; subst hu hv; exact .inl ⟨_, rfl, rfl⟩
    | i + 1, hu, hv => exact h2 i u v (by simpa using hu) (by simpa using hv)
  | _, _, .cons h t => by
    obtain ⟨h1, h2⟩ := t.get
    refine ⟨by simp [h1], fun i u v hu hv => ?_⟩
    match i, hu, hv with
    | 0, hu, hv => simp at hu hv; subst hu hv; exact .inr h
    | i + 1, hu, hv => exact h2 i u v (by simpa using hu) (by simpa using hv)

/-- Such a call in a region's list. -/
theorem AWPL_consK (K : List Nat) {st : St} {all : Array Oper} {Q : Exit → St → Prop} {rest : List Oper} {o : Oper} {fo : Operand} {args : Array Operand} {tys : Array TypeId} {d f id : Nat} {et : TypeId} {xs : List Int} {ys : List AVal} {r : AVal} {H : List Blk}
    (hP : ConsP P f et xs ys r H) (hop : o.op = .call ⟨.value fo, args, tys⟩) (hdst : o.dst = some d) (hpc : pcOf all st.s o.guard = (true, true)) (hf : opd st.s fo = .func f []) (hcall : ∀ args w, (callFunc f args).run P w = .ok (.enter f args) w)
    (hb : st.h[id]? = some (some (.ints et .i64 xs))) (hargs : ArgsC (st.h.set id none) id (args.toList.map fun x => sv (opd st.s x)) ys) (hsc : (args.toList.all fun x => sc true (opd st.s x)) = true) (hd : d < st.n) (hr : nI r = true) (hH : H.all nIB = true)
    (h : ∀ st', (⟨st.n, keepL K (putL st.s d (sh st.h.length r)), st.h.set id none ++ H.map fun b => some (shB st.h.length b)⟩ : St) = st' → AWPL P w0 all Q rest st') : AWPL P w0 all Q (o :: rest) st := by
  intro F φ a w hrel
  have hwant : Region.wanted o (yielded all a.tmps) = true := by rw [pc_wanted hrel (by rw [hpc]), hpc]
  refine wpList_step fun K' hK => ?_
  rw [if_pos hwant]
  have hfr := opd_rep hrel fo
  rw [hf] at hfr
  have hcv : a.eval fo = .func (.func f) #[] #[] := by
    generalize a.eval fo = u at hfr
    cases hfr with | func _ _ vs h1 h2 =>
      have : vs = #[] := by
        apply Array.eq_empty_of_size_eq_zero; simpa using h1.symm
      rw [this]
  have hrun : (execOp a.eval o).run P w = .ok (.enter f (args.map a.eval)) w := by
    simp only [execOp, hop, resolve, hcv, Deferred.ofValue, Sem.run_bind, Sem.run_pure, Result.andThen_ok, invoke, Array.empty_append, hcall, Array.append_empty]
  unfold Oper.wp
  rw [hrun]
  obtain ⟨g1, g2⟩ := hargs.get
  have hkill := hrel.heap.kill id
  have hklen : (st.h.set id none).length = st.h.length := by simp
  have hidl := Blk.ext_lt hb
  -- the callee's own view
  have hcell : RelH (addOwn F φ (st.h.set id none) w) (fun i => if i = 0 then φ id else .unused) w0.heap.size [some (.ints et .i64 xs)] w := by
    refine ⟨(addOwn_agree hkill).1, fun i hi => if_neg (by simp at hi; omega), fun i b hi => ?_, fun i j bi bj g hi hj h1 h2 => ?_, (addOwn_agree hkill).2, fun j i l hj => by
      match j, hj with
      | 0, hj => simp at hj
      | j + 1, hj => simp at hj⟩
    · match i, hi with
      | 0, hi =>
        simp at hi; subst hi
        rcases (hrel.heap.blk id _ hb).nxC rfl with ⟨p1, p2⟩ | ⟨g, cap, cur, p1, p2, p3, p4, p5, p6, p7, p8⟩
        · exact .inl ⟨by simpa using p1, p2⟩
        · refine .inr (.inl ⟨g, cap, cur, by simpa using p1, p2, ?_, p4, p5, p6, p7, fun i e he => ⟨(p8 i e he).1, fun j x hx => ?_⟩⟩)
          · unfold addOwn
            rw [p3]
            simp only
            refine if_neg ?_
            rintro ⟨id', b', q1, q2⟩
            have hne : id' ≠ id := by
              rintro rfl
              rw [List.getElem?_set_self hidl] at q1; simp at q1
            rw [List.getElem?_set_ne (Ne.symm hne)] at q1
            exact hne (hrel.heap.sep id' id _ _ _ q1 hb q2 (by rw [p1]; rfl))
          · obtain ⟨u, u1, u2, u3⟩ := (p8 i e he).2 j x hx
            refine ⟨u, u1, ?_, u3⟩
            simp only [Blk.es, intEs, List.getElem?_map, Option.map_eq_some_iff] at he
            obtain ⟨n, _, rfl⟩ := he
            match j, hx with
            | 0, hx =>
              simp at hx; subst hx
              cases u2; constructor <;> assumption
      | i + 1, hi => simp at hi
    · have hi0 : i = 0 := by
        rcases Nat.eq_zero_or_pos i with q | q
        · exact q
        · rw [List.getElem?_eq_none (by simp; omega)] at hi; cases hi
      have hj0 : j = 0 := by
        rcases Nat.eq_zero_or_pos j with q | q
        · exact q
        · rw [List.getElem?_eq_none (by simp; omega)] at hj; cases hj
      omega
  have hpl : PLe φ0 (fun i => if i = 0 then φ id else .unused) := fun i hi => absurd rfl hi
  have hc := hP w0 w (addOwn F φ (st.h.set id none) w) _ (args.map a.eval) hrel.below hcell (by rw [← g1]; simp) (fun i y v hy hv => by
    have hi : i < (args.toList.map fun x => sv (opd st.s x)).length := by
      rw [g1]
      rcases Nat.lt_or_ge i ys.length with c | c
      · exact c
      · rw [List.getElem?_eq_none c] at hy; cases hy
    have hx := List.getElem?_eq_getElem hi
    have hxv : RepV F φ ((args.toList.map fun x => sv (opd st.s x))[i]) v := by
      rw [List.getElem?_map, Array.getElem?_toList] at hx
      rw [Array.getElem?_map] at hv
      cases hq : args[i]? with
      | none => rw [hq] at hv; cases hv
      | some q =>
        rw [hq] at hx hv
        simp only [Option.map_some, Option.some.injEq] at hx hv
        rw [← hx, ← hv]
        exact ev_rep hrel (List.all_eq_true.1 hsc q (Array.mem_toList_iff.2 (Array.mem_of_getElem? hq)))
    rcases g2 i _ y hx hy with ⟨n, e1, rfl⟩ | hok
    · rw [e1] at hxv
      cases hxv with
      | own _ _ g cap sz et' q1 q2 q3 => exact .own _ _ g cap sz et' (by simpa using q1) q2 q3
      | ownNil _ q => exact .ownNil _ (by simpa using q)
    · have hrel2 : Rel F φ w0 ⟨st.n, st.s, st.h.set id none⟩ a w := ⟨hkill, hrel.size, hrel.slots, hrel.defers, hrel.below⟩
      exact (argOk_rep (st := ⟨st.n, st.s, st.h.set id none⟩) hkill hok hxv).le (FLe.refl _) hpl)
  refine hc.mono fun e w' ⟨v, F', φ', he, hF, hH', hv, hbw⟩ => ?_
  subst he
  refine hK _ _ ?_
  obtain ⟨k1, k2⟩ := hkill.backC hF hH' (List.all_eq_true.1 hH)
  rw [hklen] at k1 k2
  have := Rel.put (st := { st with h := st.h.set id none ++ H.map fun b => some (shB st.h.length b) }) (d := d) (x := sh st.h.length r) (v := v) ⟨k1, hrel.size, fun i => (hrel.slots i).le (FLe.refl F) k2, hrel.defers, hbw⟩ hd (sh_rep hr hv)
  rw [hdst]
  exact h _ rfl F _ _ w' (this.keep K)
end
end Go.AX
