/-
  Several blocks of the call's own that are written no more: all at once.  Conditions: none.
-/
import Derived.Test.YtabhcjpjoknihaaAxOp
import Derived.Test.YtabhcjpjoknihaaAxUn

set_option linter.unusedSimpArgs false
set_option linter.unusedVariables false
namespace Go.AX
open Go Go.RowKit
variable {P : Program} {T : Tab} {F : Fz} {φ : Phi} {w0 w : World} {st : St}

/-- These blocks alone. -/
def keepJ (H : List (Option Blk)) (J : List Nat) : List (Option Blk) := H.mapIdx fun i b => if J.contains i then b else none
/-- All but these blocks. -/
def dropJ (H : List (Option Blk)) (J : List Nat) : List (Option Blk) := H.mapIdx fun i b => if J.contains i then none else b
theorem keepJ_at {H : List (Option Blk)} {J : List Nat} {i : Nat} {b : Blk} (h : (keepJ H J)[i]? = some (some b)) : i ∈ J ∧ H[i]? = some (some b) := by
  unfold keepJ at h
  rw [List.getElem?_mapIdx] at h
  cases e : H[i]? with
  | none => rw [e] at h; cases h
  | some x =>
    rw [e] at h
    simp only [Option.map_some, Option.some.injEq] at h
    split at h
    · rename_i c
      exact ⟨by simpa using c, by rw [h]⟩
    · cases h
theorem dropJ_at {H : List (Option Blk)} {J : List Nat} {i : Nat} {b : Blk} (h : (dropJ H J)[i]? = some (some b)) : i ∉ J ∧ H[i]? = some (some b) := by
  unfold dropJ at h
  rw [List.getElem?_mapIdx] at h
  cases e : H[i]? with
  | none => rw [e] at h; cases h
  | some x =>
    rw [e] at h
    simp only [Option.map_some, Option.some.injEq] at h
    split at h
    · cases h
    · rename_i c
      exact ⟨by simpa using c, by rw [h]⟩
theorem RelH.keepJ {base : Nat} {H : List (Option Blk)} (h : RelH F φ base H w) (J : List Nat) : RelH F φ base (keepJ H J) w :=
  ⟨h.agree, fun i hi => h.unused i (by simpa [AX.keepJ] using hi), fun i b' hi => h.blk i b' (keepJ_at hi).2, fun i j bi bj g hi hj => h.sep i j bi bj g (keepJ_at hi).2 (keepJ_at hj).2, h.good, fun j i l hj => h.pins j i l (keepJ_at hj).2⟩
theorem RelH.freezeJ {base : Nat} {H : List (Option Blk)} (h : RelH F φ base H w) (J : List Nat) : RelH (addOwn F φ (AX.keepJ H J) w) φ base (dropJ H J) w := by
  have hle : FLe F (addOwn F φ (AX.keepJ H J) w) := fun b o h => by simp [addOwn, h]
  have hold := fun i b' hi => dropJ_at (H := H) (J := J) (i := i) (b := b') hi
  refine ⟨(addOwn_agree (h.keepJ J)).1, fun i hi => h.unused i (by simpa [dropJ] using hi), fun i b' hi => ?_, fun i j bi bj g hi hj h1 h2 => h.sep i j _ _ g (hold i bi hi).2 (hold j bj hj).2 h1 h2, (addOwn_agree (h.keepJ J)).2, fun j i l hj => h.pins j i l (hold j _ hj).2⟩
  obtain ⟨hne, hi'⟩ := hold i b' hi
  refine (h.blk i b' hi').leO hle (PLe.refl φ) (fun g ho _ hg _ => ?_) fun _ _ => rfl
  unfold addOwn
  rw [hg]
  simp only
  refine if_neg ?_
  rintro ⟨id', b2, q1, q2⟩
  obtain ⟨k1, k2⟩ := keepJ_at q1
  exact hne (h.sep i id' _ _ _ hi' k2 ho q2 ▸ k1)
theorem FrzOk.repJ {base : Nat} {H : List (Option Blk)} (h : RelH F φ base H w) {J : List Nat} {x y : AVal} (ha : FrzOk (keepJ H J) x y) {w0 : World} (hbase : base = w0.heap.size) {v : Value} (hr : RepV F φ x v) : RepV (addOwn F φ (keepJ H J) w) φ y v := by
  subst hbase
  have ho := h.keepJ J
  cases ha with
  | one ha => exact (argOk_rep (st := ⟨0, [], keepJ H J⟩) ho ha hr).le (FLe.refl _) (PLe0 φ)
  | @tup l m ha =>
    obtain ⟨g1, g2⟩ := ha.get
    cases hr with
    | tup _ vs k1 k2 =>
      refine .tup m vs (by omega) fun q x v hx hv => ?_
      have hql : q < l.length := by
        rw [g1]
        rcases Nat.lt_or_ge q m.length with c | c
        · exact c
        · rw [List.getElem?_eq_none c] at hx; cases hx
      have hlq := List.getElem?_eq_getElem hql
      exact (argOk_rep (st := ⟨0, [], keepJ H J⟩) ho (g2 q _ x hlq hx) (k2 q _ v hlq hv)).le (FLe.refl _) (PLe0 φ)
theorem Rel.freezeJ {w0 : World} {st : St} {a : Act} (hr : Rel F φ w0 st a w) (i : Nat) (J : List Nat) {y : AVal} (ha : FrzOk (keepJ st.h J) (look st.s i) y) :
    Rel (addOwn F φ (keepJ st.h J) w) φ w0 ⟨st.n, putL st.s i y, dropJ st.h J⟩ a w := by
  have hle : FLe F (addOwn F φ (keepJ st.h J) w) := fun b o h => by simp [addOwn, h]
  refine ⟨hr.heap.freezeJ J, hr.size, fun j => ?_, hr.defers, hr.below⟩
  have hs := hr.slots j
  simp only [look_putL]
  split
  · rename_i e
    subst e
    exact ha.repJ hr.heap rfl hs
  · exact hs.le hle (PLe.refl _)
theorem AWP_freezeJ (i : Nat) (J : List Nat) {y : AVal} {c : Code} {Q : Exit → St → Prop} {st : St} (ha : FrzOk (keepJ st.h J) (look st.s i) y)
    (h : ∀ st', (⟨st.n, putL st.s i y, dropJ st.h J⟩ : St) = st' → AWP P w0 c Q st') : AWP P w0 c Q st := by
  intro F φ a w hr
  have hle : FLe F (addOwn F φ (keepJ st.h J) w) := fun b o h => by simp [addOwn, h]
  exact wp_mono (h _ rfl _ φ a w (hr.freezeJ i J ha)) fun e a' w' hq => hq.le hle
theorem AWP_stE {c : Code} {Q : Exit → St → Prop} {st : St} (st' : St) (he : st = st') (h : AWP P w0 c Q st') : AWP P w0 c Q st := he ▸ h
theorem AWPL_freezeJ (i : Nat) (J : List Nat) {y : AVal} {all : Array Oper} {Q : Exit → St → Prop} {rest : List Oper} {st : St} (ha : FrzOk (keepJ st.h J) (look st.s i) y)
    (h : ∀ st', (⟨st.n, putL st.s i y, dropJ st.h J⟩ : St) = st' → AWPL P w0 all Q rest st') : AWPL P w0 all Q rest st := by
  intro F φ a w hr
  have hle : FLe F (addOwn F φ (keepJ st.h J) w) := fun b o h => by simp [addOwn, h]
  exact wpList_monoQ (fun e a' w' hq => hq.le hle) (h _ rfl _ φ a w (hr.freezeJ i J ha))
theorem agg_any {F : Fz} {φ φ' : Phi} {l : List AVal} {v : Value} (hl : l.all atomB = true) (h : RepV F φ (.agg l) v) : RepV F φ' (.agg l) v := by
  cases h with
  | agg _ vs h1 h2 h3 => exact .agg l vs h1 h2 fun i x u hx hu => atom_any (List.all_eq_true.1 hl x (List.mem_of_getElem? hx)) (h3 i x u hx hu)
theorem AWPL_callFA (K : List Nat) {st : St} {all : Array Oper} {Q : Exit → St → Prop} {rest : List Oper} {o : Oper} {fo : Operand} {args : Array Operand} {tys : Array TypeId} {d f : Nat} {caps ys l : List AVal}
    (hP : Pure P f ys (.agg l) []) (hop : o.op = .call ⟨.value fo, args, tys⟩) (hdst : o.dst = some d) (hpc : pcOf all st.s o.guard = (true, true)) (hf : opd st.s fo = .func f caps) (hcall : ∀ args w, (callFunc f args).run P w = .ok (.enter f args) w)
    (hargs : ArgsOk st.h ((args.toList.map fun x => sv (opd st.s x)) ++ caps) ys) (hsc : (args.toList.all fun x => sc true (opd st.s x)) = true) (hd : d < st.n) (hl : l.all atomB = true) (hno : st.h.all (fun b => b.isNone) = true)
    (h : ∀ st', (⟨st.n, keepL K (putL st.s d (.agg l)), st.h⟩ : St) = st' → AWPL P w0 all Q rest st') : AWPL P w0 all Q (o :: rest) st := by
  intro F φ a w hrel
  have hwant : Region.wanted o (yielded all a.tmps) = true := by rw [pc_wanted hrel (by rw [hpc]), hpc]
  refine wpList_step fun K' hK => ?_
  rw [if_pos hwant]
  have hfr := opd_rep hrel fo
  rw [hf] at hfr
  obtain ⟨cv, hcv, hcl, hcr⟩ : ∃ cv : Array Value, a.eval fo = .func (.func f) #[] cv ∧ caps.length = cv.size ∧ ∀ (i : Nat) (x : AVal) (v : Value), caps[i]? = some x → cv[i]? = some v → RepV F φ x v := by
    generalize a.eval fo = u at hfr
    cases hfr with | func _ _ vs h1 h2 => exact ⟨vs, rfl, h1, h2⟩
  have hrun : (execOp a.eval o).run P w = .ok (.enter f (args.map a.eval ++ cv)) w := by
    simp only [execOp, hop, resolve, hcv, Deferred.ofValue, Sem.run_bind, Sem.run_pure, Result.andThen_ok, invoke, Array.empty_append, hcall]
  unfold Oper.wp
  rw [hrun]
  obtain ⟨g1, g2⟩ := hargs.get
  have hlen : ys.length = (args.map a.eval ++ cv).size := by
    rw [← g1]; simp [hcl]
  have hc := hP w (addOwn F φ st.h w) (args.map a.eval ++ cv) (addOwn_agree hrel.heap) hlen (fun i y v hy hv => by
    have hi : i < ((args.toList.map fun x => sv (opd st.s x)) ++ caps).length := by
      rw [g1]
      rcases Nat.lt_or_ge i ys.length with c | c
      · exact c
      · rw [List.getElem?_eq_none c] at hy; cases hy
    have hx := List.getElem?_eq_getElem hi
    refine argOk_rep hrel.heap (g2 i _ y hx hy) ?_
    rw [List.getElem?_append] at hx
    rw [Array.getElem?_append] at hv
    simp only [List.length_map, Array.length_toList] at hx
    simp only [Array.size_map] at hv
    split at hx
    · rename_i hlt
      rw [if_pos hlt] at hv
      rw [List.getElem?_map, Array.getElem?_toList] at hx
      rw [Array.getElem?_map] at hv
      cases hq : args[i]? with
      | none => rw [hq] at hv; cases hv
      | some q =>
        rw [hq] at hx hv
        simp only [Option.map_some, Option.some.injEq] at hx hv
        rw [← hx, ← hv]
        exact ev_rep hrel (List.all_eq_true.1 hsc q (Array.mem_toList_iff.2 (Array.mem_of_getElem? hq)))
    · rename_i hge
      rw [if_neg hge] at hv
      exact hcr _ _ v hx hv)
  refine hc.mono fun e w' ⟨v, F', φ', he, hF, hH', hv, hb⟩ => ?_
  subst he
  refine hK _ _ ?_
  have hFF : FLe F F' := FLe.trans (fun b o h => by simp [addOwn, h]) hF
  have hno' : ∀ (id : Nat) (b : Blk), st.h[id]? = some (some b) → False := fun id b hib => by
    have := List.all_eq_true.1 hno _ (List.mem_of_getElem? hib)
    simp at this
  have hrh : RelH F' φ w0.heap.size st.h w' := ⟨hH'.agree, hrel.heap.unused, fun id b hib => (hno' id b hib).elim, fun i j bi bj g hi => (hno' i bi hi).elim, hH'.good, fun j i l hj => (hno' j _ hj).elim⟩
  have hres : Rel F' φ w0 st a w' := ⟨hrh, hrel.size, fun i => (hrel.slots i).le hFF (PLe.refl φ), hrel.defers, hrel.below.trans (hb.mono hrel.below.size)⟩
  rw [hdst]
  exact wpList_monoQ (fun e a' w' hq => hq.le hFF) (h _ rfl F' φ _ w' ((hres.put hd (agg_any hl hv)).keep K))
end Go.AX
