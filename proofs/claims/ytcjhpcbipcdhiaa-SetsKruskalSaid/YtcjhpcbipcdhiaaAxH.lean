/-
  One operation, a list of operations, a region, code: on abstract states. Conditions: the table of types is the program's.
-/
import Derived.Test.YtcjhpcbipcdhiaaAxG
import Derived.Deep.LoopGhost
import Derived.StillTail
set_option linter.unusedSimpArgs false
set_option linter.unusedVariables false
namespace Go.AX
open Go Go.RowKit

def zv (r : TyRow) : AVal := match r.zero with | .agg cs => .agg (cs.toList.map absV) | v => absV v
def okInt (r : TyRow) : Bool := match r.d with | .int k => decide (r.sz = 1) && (match r.zero with | .int k' n => decide (k = k') && decide (n = 0) | _ => false) | _ => true

/-- A new variable's block. -/
def blk0 (e : TypeId) (r : TyRow) : Option Blk := match r.d with
  | .fn => if r.sz = 1 then some (.gen e 1 [[.junk]]) else none
  | _ => blk1 e r.sz (zv r)

def stepE (T : Tab) (st : St) (d : Option Nat) : Op → Bool × St
  | .alloc e => match d, blk0 e (T e) with
    | some d, some b => (known (T e) && okZero (T e) && decide (d < st.n), { st with s := putL st.s d (.ptr st.h.length 0 0), h := st.h ++ [some b] })
    | _, _ => (false, st)
  | .box e x => match d, blk1 e (T e).sz (sv (opd st.s x)) with
    | some d, some b => (sc true (opd st.s x) && decide (d < st.n), { st with s := putL st.s d (.ptr st.h.length 0 0), h := st.h ++ [some b] })
    | _, _ => (false, st)
  | .store t x v => match d, sv (opd st.s x), cellsA (sv (opd st.s v)) with
    | none, .ptr id i j, some l => match getB st.h id with
      | some b => (known (T t) && sc true (opd st.s x) && sc true (opd st.s v) && decide ((T t).sz = l.length) && (storeB b i j (sv (opd st.s v))).1, { st with h := st.h.set id (some (storeB b i j (sv (opd st.s v))).2) })
      | none => (false, st)
    | _, _, _ => (false, st)
  | .makeSlice t l c => match d, (T t).d, sv (opd st.s l), sv (opd st.s c) with
    | some d, .slice e, .int _ n, .int _ m => (known (T e) && okZero (T e) && okInt (T e) && decide ((T e).by_ ≤ 128) && sc true (opd st.s l) && sc true (opd st.s c) && decide (n = m) && decide (0 ≤ n) && decide (n ≤ 1099511627776) && decide (d < st.n),
        { st with s := putL st.s d (.own st.h.length n.toNat), h := st.h ++ [some (zeroB e (T e) n.toNat)] })
    | _, _, _, _ => (false, st)
  | .buildSlice t len parts => match d, (T t).d with
    | some d, .slice e => match partsB e (T e) (parts.toList.map fun p => sv (opd st.s p.2)) with
      | some b => (known (T e) && okZero (T e) && okInt (T e) && decide (len * (T e).sz ≤ 16777216) && decide (parts.toList.map (·.1) = List.range len) && parts.toList.all (fun p => sc true (opd st.s p.2)) && decide (d < st.n),
          { st with s := putL st.s d (.own st.h.length len), h := st.h ++ [some b] })
      | none => (false, st)
    | _, _ => (false, st)
  | .call c => match c.callee, d, c.args.toList, c.argTypes.toList with
    | .builtin .append, some d, [x, y], [t, t'] => match (T t).d with
      | .slice e => match appB e (T e) st.h (sv (opd st.s x)) (sv (opd st.s y)) with
        | some (ko, nb) => (decide (t = t') && known (T e) && okZero (T e) && okInt (T e) && decide ((T e).by_ ≤ 16) && sc true (opd st.s x) && sc true (opd st.s y) && decide (nb.sz = (T e).sz) && decide (nb.es.length ≤ 8796093022208) && decide (d < st.n),
            { st with s := putL st.s d (.own st.h.length nb.es.length), h := killO st.h ko ++ [some nb] })
        | none => (false, st)
      | _ => (false, st)
    | _, _, _, _ => (false, st)
  | _ => (false, st)

def isEff : Op → Bool
  | .alloc _ | .box _ _ | .store _ _ _ | .makeSlice _ _ _ | .buildSlice _ _ _ => true
  | .call c => match c.callee with | .builtin .append => true | _ => false
  | _ => false

def gslot (all : Array Oper) (j : Nat) : Option Nat := (all[j]?).bind (·.dst)
def pcOf (all : Array Oper) (s : List (Nat × AVal)) : Option (Nat × Bool) → Bool × Bool
  | none => (true, true)
  | some (j, want) => match gslot all j with
    | some d => match look s d with
      | .bool b => (true, b == want)
      | .opt g (.bool b) => (true, g && (b == want))
      | _ => (false, false)
    | none => (false, false)

def stepP (T : Tab) (all : Array Oper) (o : Oper) (st : St) : Bool × St :=
  match o.dst with
  | some d => ((pcOf all st.s o.guard).1 && (pv T st.h (pcOf all st.s o.guard).2 (opd st.s) o.op).1 && decide (d < st.n),
      { st with s := putL st.s d (match o.guard with | none => (pv T st.h (pcOf all st.s o.guard).2 (opd st.s) o.op).2 | some _ => .opt (pcOf all st.s o.guard).2 (pv T st.h (pcOf all st.s o.guard).2 (opd st.s) o.op).2) })
  | none => (false, st)

def stepA (T : Tab) (all : Array Oper) (o : Oper) (st : St) : Bool × St :=
  if isEff o.op then (o.guard.isNone && (stepE T st o.dst o.op).1, (stepE T st o.dst o.op).2) else stepP T all o st

def runL (T : Tab) (all : Array Oper) : List Oper → St → Bool × St
  | [], st => (true, st)
  | o :: r, st => ((stepA T all o st).1 && (runL T all r (stepA T all o st).2).1, (runL T all r (stepA T all o st).2).2)
def runP (T : Tab) (all : Array Oper) : List Oper → St → Bool × St
  | [], st => (true, st)
  | o :: r, st => ((stepP T all o st).1 && (runP T all r (stepP T all o st).2).1, (runP T all r (stepP T all o st).2).2)

section
variable {P : Program} {T : Tab} {F : Fz} {φ : Phi} {w0 : World} {st : St} {a : Act} {w : World}

theorem zv_rep {r : TyRow} (hz : okZero r = true) : RepV F φ (zv r) r.zero := by
  simp only [okZero, Bool.and_eq_true, decide_eq_true_eq, List.all_eq_true] at hz
  unfold zv
  split
  · rename_i cs hc
    rw [hc] at hz
    rw [hc]
    refine .agg _ _ (by simp) (fun i v hv => hz.2 v (Array.mem_toList_iff.2 (Array.mem_of_getElem? hv))) fun i x v hx hv => ?_
    rw [List.getElem?_map, Array.getElem?_toList, hv] at hx
    simp at hx; subst hx
    exact absV_rep F φ v
  · exact absV_rep F φ r.zero

theorem okInt_spec {r : TyRow} (h : okInt r = true) : ∀ k, r.d = .int k → r.sz = 1 ∧ r.zero = .int k 0 := by
  intro k hd
  unfold okInt at h
  rw [hd] at h
  simp only [Bool.and_eq_true, decide_eq_true_eq] at h
  refine ⟨h.1, ?_⟩
  split at h
  · rename_i k' n hz
    simp only [decide_eq_true_eq, Bool.and_eq_true] at h
    rw [hz, h.2.1, h.2.2]
  · simp at h

set_option maxHeartbeats 1000000 in
theorem newVar0_ok {P : Program} {F : Fz} {φ : Phi} {w0 : World} {st : St} {a : Act} {w : World} (h : Rel F φ w0 st a w) {et : TypeId} {r : TyRow} {b : Blk} (hz : okZero r = true) (hb : blk0 et r = some b) {d : Nat} (hd : d < st.n) :
    ∃ φ', (newVar et r.zero).run P w = .ok ⟨w.heap.size, 0, none⟩ (w.alloc (.cells r.zero.cells et)) ∧ Rel F φ' w0 { st with s := putL st.s d (.ptr st.h.length 0 0), h := st.h ++ [some b] } (a.put (some d) (.pointer (some ⟨w.heap.size, 0, none⟩))) (w.alloc (.cells r.zero.cells et)) := by
  unfold blk0 at hb
  split at hb
  · split at hb
    · rename_i hsz
      cases hb
      simp only [okZero, Bool.and_eq_true, decide_eq_true_eq] at hz
      obtain ⟨⟨z1, _⟩, z3⟩ := hz
      have hone : ∃ u, r.zero.cells[0]? = some u ∧ u.oneCell' = true := by
        have h0 : 0 < r.zero.cells.size := by omega
        refine ⟨r.zero.cells[0], Array.getElem?_eq_getElem h0, ?_⟩
        exact (List.all_eq_true.1 z3) _ (by simp)
      have := h.alloc (.gen et 1 [[.junk]]) r.zero.cells 1 (by simp [Blk.es]) (by unfold maxLen; omega) (by show _ = 1 * 1; omega) (fun i e he => by
        match i, he with
        | 0, he =>
          simp [Blk.es] at he; subst he
          refine ⟨rfl, fun j x hx => ?_⟩
          match j, hx with
          | 0, hx =>
            simp at hx; subst hx
            obtain ⟨u, u1, u2⟩ := hone
            exact ⟨u, by simpa using u1, .junk _, u2⟩)
      refine ⟨upd φ st.h.length (.at w.heap.size 1 1 et), by simp only [newVar, newRow, newObj, Sem.run_bind]; rfl, ?_⟩
      refine Rel.put (st := { st with h := st.h ++ [some (.gen et 1 [[.junk]])] }) this hd ?_
      have hp := RepV.ptr (F := F) (φ := upd φ st.h.length (.at w.heap.size 1 1 et)) st.h.length 0 0 w.heap.size 1 1 et (by simp [upd])
      exact (show RepV F (upd φ st.h.length (.at w.heap.size 1 1 et)) (.ptr st.h.length 0 0) (.pointer (some ⟨w.heap.size, 0, none⟩)) by simpa using hp)
    · cases hb
  · exact newVar_ok (P := P) h (zv_rep hz) hb hd
theorem stepE_ok (hT : TabOk P T) (h : Rel F φ w0 st a w) {o : Oper} (hc : (stepE T st o.dst o.op).1 = true) {K : Act → World → Prop} {Q : Exit → Act → World → Prop}
    (hK : ∀ a' w' φ', Rel F φ' w0 (stepE T st o.dst o.op).2 a' w' → K a' w') : o.wp P a w K Q := by
  obtain ⟨dst, op, type, pos, after, guard⟩ := o
  simp only at hc hK
  unfold Oper.wp
  cases op <;> simp only [stepE, Bool.false_eq_true] at hc hK
  case alloc e =>
    split at hc
    · rename_i d b hb
      simp only [hb, Bool.and_eq_true, decide_eq_true_eq] at hc hK
      obtain ⟨φ', r1, r2⟩ := newVar0_ok (P := P) h hc.1.2 hb hc.2
      have : (execOp a.eval ⟨some d, .alloc e, type, pos, after, guard⟩).run P w = .ok (.value (.pointer (some ⟨w.heap.size, 0, none⟩))) (w.alloc (.cells (T e).zero.cells e)) := by
        simp [execOp, Instr.alloc, zero_run hT hc.1.1, r1]
      rw [this]
      exact hK _ _ φ' r2
    · cases hc
  case box e x =>
    split at hc
    · rename_i d b hb
      simp only [hb, Bool.and_eq_true, decide_eq_true_eq] at hc hK
      obtain ⟨φ', r1, r2⟩ := newVar_ok (P := P) h (ev_rep h hc.1) hb hc.2
      have : (execOp a.eval ⟨some d, .box e x, type, pos, after, guard⟩).run P w = .ok (.value (.pointer (some ⟨w.heap.size, 0, none⟩))) (w.alloc (.cells (a.eval x).cells e)) := by
        simp [execOp, Instr.box, r1]
      rw [this]
      exact hK _ _ φ' r2
    · cases hc
  case store t x v =>
    split at hc
    · rename_i id i j l hx hl
      split at hc
      · rename_i b hb
        simp only [hx, hl, hb, Bool.and_eq_true, decide_eq_true_eq] at hc hK
        obtain ⟨⟨⟨⟨h1, h2⟩, h3⟩, h4⟩, h5⟩ := hc
        have hp := ev_rep h h2
        rw [hx] at hp
        obtain ⟨w', r1, r2⟩ := store_ok hT h h1 hp (ev_rep h h3) hb hl h4 h5
        have : (execOp a.eval ⟨none, .store t x v, type, pos, after, guard⟩).run P w = .ok .skip w' := by simp [execOp, r1]
        rw [this]
        exact hK _ _ φ r2
      · cases hc
    · cases hc
  case makeSlice t l c =>
    split at hc
    · rename_i d e k n k' m hd hl hm
      simp only [hd, hl, hm, Bool.and_eq_true, decide_eq_true_eq] at hc hK
      obtain ⟨⟨⟨⟨⟨⟨⟨⟨⟨h1, h2⟩, h3⟩, h4⟩, h5⟩, h6⟩, h7⟩, h8⟩, h9⟩, h10⟩ := hc
      have q1 := ev_rep h h5
      have q2 := ev_rep h h6
      rw [hl] at q1
      rw [hm] at q2
      obtain ⟨e1, _⟩ := int_inv q1
      obtain ⟨e2, _⟩ := int_inv q2
      obtain ⟨N, rfl⟩ := Int.eq_ofNat_of_zero_le h8
      subst h7
      simp only [Int.toNat_natCast] at hK
      obtain ⟨φ', w', r1, r2⟩ := make_ok (P := P) hT h hd h1 h2 (okInt_spec h3) (k1 := k) (k2 := k') (n := N) (by omega) h4 h10
      have : (execOp a.eval ⟨some d, .makeSlice t l c, type, pos, after, guard⟩).run P w = .ok (.value (.slice (some ⟨w.heap.size, 0, none⟩) N N)) w' := by simp [execOp, e1, e2, r1]
      rw [this]
      exact hK _ _ φ' r2
    · cases hc
  case buildSlice t len parts =>
    split at hc
    · rename_i d e hd
      split at hc
      · rename_i b hb
        simp only [hd, hb, Bool.and_eq_true, decide_eq_true_eq, List.all_eq_true] at hc hK
        obtain ⟨⟨⟨⟨⟨⟨h1, h2⟩, h3⟩, h4⟩, h5⟩, h6⟩, h7⟩ := hc
        have hlen : parts.toList.length = len := by have := congrArg List.length h5; simpa using this
        obtain ⟨φ', w', r1, r2⟩ := build_ok (P := P) hT h hd h1 h2 (fun k hk => (okInt_spec h3 k hk).1) (len := len) (l := parts.toList.map fun p => sv (opd st.s p.2)) (vs := parts.toList.map fun p => (p.1, a.eval p.2)) h4 (by simpa using hlen) (by simpa using hlen) (fun q p x hp hx => by
          rw [List.getElem?_map] at hp hx
          cases hq : parts.toList[q]? with
          | none => rw [hq] at hp; cases hp
          | some u =>
            rw [hq] at hp hx
            simp at hp hx
            subst hp hx
            refine ⟨?_, ev_rep h (h6 u (List.mem_of_getElem? hq))⟩
            have hql : q < len := by
              rcases Nat.lt_or_ge q len with c | c
              · exact c
              · rw [List.getElem?_eq_none (by omega)] at hq; cases hq
            have : (parts.toList.map (·.1))[q]? = some u.1 := by rw [List.getElem?_map, hq]; rfl
            rw [h5, List.getElem?_range hql] at this
            injection this with this; exact this.symm) hb h7
        have hparts : parts.map (fun (i, x) => (i, a.eval x)) = (parts.toList.map fun p => (p.1, a.eval p.2)).toArray := by apply Array.toList_inj.1; simp
        have : (execOp a.eval ⟨some d, .buildSlice t len parts, type, pos, after, guard⟩).run P w = .ok (.value (.slice (some ⟨w.heap.size, 0, none⟩) len len)) w' := by
          simp only [execOp, hparts, Sem.run_bind, r1, Result.andThen_ok, Sem.run_pure]
        rw [this]
        exact hK _ _ φ' r2
      · cases hc
    · cases hc
  case call c =>
    obtain ⟨callee, args, argTypes⟩ := c
    simp only at hc hK
    split at hc
    · rename_i d x y t t' ha ht
      split at hc
      · rename_i e hd
        split at hc
        · rename_i ko nb hb
          simp only [ha, ht, hd, hb, Bool.and_eq_true, decide_eq_true_eq] at hc hK
          obtain ⟨⟨⟨⟨⟨⟨⟨⟨⟨rfl, h1⟩, h2⟩, h3⟩, h4⟩, h5⟩, h6⟩, h7⟩, h8⟩, h9⟩ := hc
          have ha' : args = #[x, y] := by apply Array.toList_inj.1; simpa using ha
          have ht' : argTypes = #[t, t] := by apply Array.toList_inj.1; simpa using ht
          subst ha' ht'
          obtain ⟨v', w', φ', r1, r2⟩ := append_ok (P := P) (ty := type) hT h hd h1 h2 (fun k hk => (okInt_spec h3 k hk).1) h4 (ev_rep h h5) (ev_rep h h6) hb h7 h8 h9
          have : (execOp a.eval ⟨some d, .call ⟨.builtin .append, #[x, y], #[t, t]⟩, type, pos, after, guard⟩).run P w = .ok (.value v') w' := by
            simp [execOp, resolve, invoke, builtin, r1]
          rw [this]
          exact hK _ _ φ' r2
        · cases hc
      · cases hc
    · cases hc

theorem pc_wanted (h : Rel F φ w0 st a w) {all : Array Oper} {o : Oper} (hc : (pcOf all st.s o.guard).1 = true) : Region.wanted o (yielded all a.tmps) = (pcOf all st.s o.guard).2 := by
  unfold pcOf at hc ⊢
  unfold Region.wanted
  cases hg : o.guard with
  | none => rfl
  | some p =>
    obtain ⟨j, want⟩ := p
    rw [hg] at hc
    simp only at hc ⊢
    split at hc
    · rename_i d hd
      have hy : ∀ v, a.tmps.getD d undef = v → v ≠ undef → yielded all a.tmps j = match v with | .bool b => some b | _ => none := by
        intro v hv hne
        have hin : d < a.tmps.size := by
          rcases Nat.lt_or_ge d a.tmps.size with q | q
          · exact q
          · rw [Array.getD_eq_getD_getElem?, Array.getElem?_eq_none q] at hv; exact absurd hv.symm hne
        have : a.tmps[d]? = some v := by rw [Array.getD_eq_getD_getElem?, Array.getElem?_eq_getElem hin] at hv; rw [Array.getElem?_eq_getElem hin]; exact congrArg some hv
        unfold yielded
        unfold gslot at hd
        rw [hd]
        simp only [Option.bind_some, this]
        split
        · rename_i b hb; injection hb with hb; rw [hb]
        · rename_i hb; cases v <;> first | rfl | exact absurd rfl (hb _)
      have hu : a.tmps.getD d undef = undef → yielded all a.tmps j = none := by
        intro hv
        unfold yielded
        unfold gslot at hd
        rw [hd]
        simp only [Option.bind_some]
        cases hq : a.tmps[d]? with
        | none => rfl
        | some v =>
          rw [Array.getD_eq_getD_getElem?, hq] at hv
          simp at hv; subst hv; rfl
      have hr := h.slots d
      split at hc
      · rename_i b hb
        rw [hb] at hr
        have := bool_inv hr
        rw [hy _ this (by simp [undef])]
        cases b <;> cases want <;> rfl
      · rename_i g b hb
        rw [hb] at hr
        cases hr with
        | opt _ _ _ r1 r2 =>
          cases g with
          | true =>
            have := bool_inv (r1 rfl)
            rw [hy _ this (by simp [undef])]
            cases b <;> cases want <;> rfl
          | false =>
            rw [hu (r2 rfl)]
            rfl
      · cases hc
    · cases hc

/-- A step that touches no memory: the value that it yields, where it is wanted. -/
theorem stepP_ok (hT : TabOk P T) (h : Rel F φ w0 st a w) {all : Array Oper} {o : Oper} (hc : (stepP T all o st).1 = true) :
    (Region.wanted o (yielded all a.tmps) = true ∧ ∃ u, (∀ w', Below w.heap.size w w' → (execOp a.eval o).run P w' = .ok (.value u) w') ∧ Rel F φ w0 (stepP T all o st).2 (a.put o.dst u) w) ∨
    (Region.wanted o (yielded all a.tmps) = false ∧ Rel F φ w0 (stepP T all o st).2 (a.put o.dst undef) w) := by
  unfold stepP at hc ⊢
  cases hd : o.dst with
  | none => rw [hd] at hc; cases hc
  | some d =>
    rw [hd] at hc
    simp only [Bool.and_eq_true, decide_eq_true_eq] at hc ⊢
    obtain ⟨⟨h1, h2⟩, h3⟩ := hc
    rw [pc_wanted h h1]
    cases hpc : (pcOf all st.s o.guard).2 with
    | true =>
      rw [hpc] at h2
      obtain ⟨u, u1, u2⟩ := pv_ok hT h h2
      refine .inl ⟨rfl, u, u1, Rel.put h h3 ?_⟩
      split
      · exact u2
      · exact .opt _ _ _ (fun _ => u2) (fun hf => nomatch hf)
    | false =>
      refine .inr ⟨rfl, Rel.put h h3 ?_⟩
      split
      · rename_i hg; rw [hg] at hpc; simp [pcOf] at hpc
      · exact .opt _ _ _ (fun hf => nomatch hf) (fun _ => rfl)

end
end Go.AX
