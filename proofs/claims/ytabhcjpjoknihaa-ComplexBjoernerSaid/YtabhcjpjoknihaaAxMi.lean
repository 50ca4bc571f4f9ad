/-
  Maps of the call's own whose keys are numbers and whose elements are truth values; looked at within a drawn region too. Conditions: none.
-/
import Derived.Test.YtabhcjpjoknihaaAxMp
import Derived.Test.YtabhcjpjoknihaaAxR
set_option linter.unusedSimpArgs false
set_option linter.unusedVariables false
namespace Go.AX
open Go Go.RowKit
open Go.Maps (Keyed)
open Go.WideElems (Fit rd rg pl rd_val elemAt)

structure MapTyB (P : Program) (t k e : TypeId) : Prop where
  und : P.underlying t = some (.map k e)
  elem : P.underlying e = some .bool
  zero : ∀ w, (zeroValue e).run P w = .ok (.bool false) w
  keyed : Keyed P k
  kint : P.underlying k = some (.int .i64)

/-- At most n entries; at a key that is not there it says no. -/
def MapIsB (P : Program) (k e : TypeId) (n : Nat) (f : Int → Bool) (es : Array MapEntry) (clock : Nat) : Prop :=
  Fit P k (plainElem (H := Unit) P e) es clock ∧ es.size ≤ n ∧ ∀ x : Int, lo .i64 ≤ x → x ≤ hi .i64 →
    (DataW.map (H := Unit) ((es.toList.map (rg P k (plainElem P e))).foldr DataW.insert [])).atKey (.int .i64 x) (.lit (.bool false)) = .lit (.bool (f x))

/-- The function, changed at a place. -/
def putB (f : Int → Bool) (x : Int) (y : Bool) (z : Int) : Bool := if z = x then y else f z

section
variable {P : Program} {w0 : World} {F : Fz} {φ : Phi}

theorem wf64 {x : Int} (h1 : lo .i64 ≤ x) (h2 : x ≤ hi .i64) : (Lit.int .i64 x).wf = true := by
  have e : IntKind.i64.min = -9223372036854775808 := rfl
  simp [Lit.wf, lo, hi, e] at h1 h2 ⊢
  omega
theorem MapTyB.key {t k e : TypeId} (h : MapTyB P t k e) {x : Int} (h1 : lo .i64 ≤ x) (h2 : x ≤ hi .i64) : keyOf P k (.int .i64 x) = some (.int .i64 x) := Go.Maps.keyOf_int_mk h.kint (wf64 h1 h2)

theorem plainElem_bool_inv {H : Type} {e : TypeId} (he : P.underlying e = some .bool) {v : Value} {z : DataW H × List MemPlace} (h : plainElem P e v = some z) : ∃ a, v = .bool a ∧ z = (.lit (.bool a), []) := by
  unfold plainElem at h
  rw [he] at h
  cases v <;> simp at h
  subst h
  exact ⟨_, rfl, rfl⟩

theorem look_bool {t k e : TypeId} {n : Nat} {f : Int → Bool} (hM : MapTyB P t k e) {w : World} {g : Nat} {es : Array MapEntry} {clock : Nat} (hg : w.heap[g]? = some (.map es clock)) (hm : MapIsB P k e n f es clock) {x : Int} (h1 : lo .i64 ≤ x) (h2 : x ≤ hi .i64) :
    (Instr.lookup t (.map (some g)) (.int .i64 x) false).run P w = .ok (.bool (f x)) w := by
  obtain ⟨q4, q5, q6⟩ := hm
  have hown : w.ownsMap P k (plainElem (H := Unit) P e) g n _ := ⟨es, clock, hg, q4, q5, rfl⟩
  obtain ⟨v, ps, hrun, hv⟩ := hown.lookup hM.keyed hM.und (hM.zero w) (plainElem_bool hM.elem false) (hM.key h1 h2)
  obtain ⟨c, rfl, hc⟩ := plainElem_bool_inv hM.elem hv
  rw [hrun]
  have := q6 x h1 h2
  simp only [Prod.mk.injEq] at hc
  rw [hc.1] at this
  injection this with this
  injection this with this
  rw [this]

/-- What a map has at a key. -/
theorem AWPL_lookB (K : List Nat) (v : Int) {st : St} {all : Array Oper} {Q : Exit → St → Prop} {rest : List Oper} {o : Oper} {m x : Operand} {t k e : TypeId} {d id n : Nat} {f : Int → Bool}
    (hM : MapTyB P t k e) (hop : o.op = .lookup t m x false) (hg : o.guard = none) (hdst : o.dst = some d) (hd : d < st.n) (hm : opd st.s m = .mp id) (hb : st.h[id]? = some (some (.xo (MapIsB P k e n f))))
    (hx : opd st.s x = .int .i64 v)
    (h : ∀ st', (⟨st.n, keepL K (putL st.s d (.bool (f v))), st.h⟩ : St) = st' → AWPL P w0 all Q rest st') : AWPL P w0 all Q (o :: rest) st := by
  intro F φ a w hrel
  have hmr := opd_rep hrel m
  rw [hm] at hmr
  have hxr := opd_rep hrel x
  rw [hx] at hxr
  obtain ⟨e1, e2⟩ := int_inv hxr
  obtain ⟨g, q, q1, q2, es, clock, q3, q4⟩ := xo_at hrel.heap hb
  have em : a.eval m = .map (some g) := by
    generalize a.eval m = u at hmr
    cases hmr with | mp _ g' q' => rw [q] at q'; injection q' with q'; subst q'; rfl
  have hrun := look_bool hM q3 q4 e2.1 e2.2
  refine wpList_plain hg fun K' hK' => ?_
  unfold Oper.wp
  have : (execOp a.eval o).run P w = .ok (.value (.bool (f v))) w := by simp [execOp, hop, em, e1, hrun, Result.andThen]
  rw [this]
  refine hK' _ _ ?_
  rw [hdst]
  exact h _ rfl F φ _ w ((hrel.put hd (.bool _)).keep K)

/-- The same within a drawn region. -/
theorem AWQL_lookB0 (v : Int) {st : St} {all : Array Oper} {Q : Exit → St → Prop} {rest : List Oper} {o : Oper} {m x : Operand} {t k e : TypeId} {d id n : Nat} {f : Int → Bool}
    (hM : MapTyB P t k e) (hop : o.op = .lookup t m x false) (hdst : o.dst = some d) (hpc : pcOf all st.s o.guard = (true, true)) (hd : d < st.n) (hm : sv (opd st.s m) = .mp id) (hsm : sc true (opd st.s m) = true) (hb : st.h[id]? = some (some (.xo (MapIsB P k e n f))))
    (hx : sv (opd st.s x) = .int .i64 v) (hsx : sc true (opd st.s x) = true)
    (h : AWQL P w0 all Q rest ⟨st.n, putL st.s d (.bool (f v)), st.h⟩) : AWQL P w0 all Q (o :: rest) st := by
  intro F φ a w hrel
  have hwant : Region.wanted o (yielded all a.tmps) = true := by rw [pc_wanted hrel (by rw [hpc]), hpc]
  refine wpQuiet_step fun K' hK => ?_
  rw [if_pos hwant]
  refine ⟨.bool (f v), fun w' hw' => ?_, hK _ ?_⟩
  · have hrel' := hrel.belowR hw'
    have hmr := ev_rep hrel' hsm
    rw [hm] at hmr
    have hxr := ev_rep hrel' hsx
    rw [hx] at hxr
    obtain ⟨e1, e2⟩ := int_inv hxr
    obtain ⟨g, q, q1, q2, es, clock, q3, q4⟩ := xo_at hrel'.heap hb
    have em : a.eval m = .map (some g) := by
      generalize a.eval m = u at hmr
      cases hmr with | mp _ g' q' => rw [q] at q'; injection q' with q'; subst q'; rfl
    have hrun := look_bool hM q3 q4 e2.1 e2.2
    unfold Oper.quietAt
    have : (execOp a.eval o).run P w' = .ok (.value (.bool (f v))) w' := by simp [execOp, hop, em, e1, hrun, Result.andThen]
    rw [this]
    exact ⟨rfl, rfl⟩
  · rw [hdst]
    exact h F φ _ w (hrel.put hd (.bool _))
theorem AWQL_lookB (K : List Nat) (v : Int) {st : St} {all : Array Oper} {Q : Exit → St → Prop} {rest : List Oper} {o : Oper} {m x : Operand} {t k e : TypeId} {d id n : Nat} {f : Int → Bool}
    (hM : MapTyB P t k e) (hop : o.op = .lookup t m x false) (hdst : o.dst = some d) (hpc : pcOf all st.s o.guard = (true, true)) (hd : d < st.n) (hm : sv (opd st.s m) = .mp id) (hsm : sc true (opd st.s m) = true) (hb : st.h[id]? = some (some (.xo (MapIsB P k e n f))))
    (hx : sv (opd st.s x) = .int .i64 v) (hsx : sc true (opd st.s x) = true)
    (h : ∀ st', (⟨st.n, keepL K (putL st.s d (.bool (f v))), st.h⟩ : St) = st' → AWQL P w0 all Q rest st') : AWQL P w0 all Q (o :: rest) st :=
  AWQL_lookB0 v hM hop hdst hpc hd hm hsm hb hx hsx (AWQL_keep K (h _ rfl))
theorem AWQL_lookGP (K : List Nat) (Pr : Prop) [Decidable Pr] (v : Int) {st : St} {all : Array Oper} {Q : Exit → St → Prop} {rest : List Oper} {o : Oper} {m x : Operand} {t k e : TypeId} {d id n : Nat} {f : Int → Bool}
    (hM : MapTyB P t k e) (hop : o.op = .lookup t m x false) (hdst : o.dst = some d) (hpc : pcOf all st.s o.guard = (true, decide Pr)) (hd : d < st.n) (hm : sv (opd st.s m) = .mp id) (hsm : Pr → sc true (opd st.s m) = true) (hb : st.h[id]? = some (some (.xo (MapIsB P k e n f))))
    (hx : sv (opd st.s x) = .int .i64 v) (hsx : Pr → sc true (opd st.s x) = true)
    (h : ∀ st', (⟨st.n, keepL K (putL st.s d (.opt (decide Pr) (.bool (f v)))), st.h⟩ : St) = st' → AWQL P w0 all Q rest st') : AWQL P w0 all Q (o :: rest) st := by
  by_cases hg : Pr
  · rw [decide_eq_true hg] at hpc h
    refine AWQL_lookB0 v hM hop hdst hpc hd hm (hsm hg) hb hx (hsx hg) fun F φ a w hrel => ?_
    refine h _ rfl F φ a w (Rel.keep (Rel.reslot hrel (s' := putL st.s d (.opt true (.bool (f v)))) fun i u hv => ?_) K)
    simp only [look_putL] at hv ⊢
    split
    · rename_i e; rw [if_pos e] at hv
      exact .opt _ _ _ (fun _ => hv) (fun h => nomatch h)
    · rename_i e; rw [if_neg e] at hv; exact hv
  · rw [decide_eq_false hg] at hpc h
    exact AWQL_skipV K _ hdst hpc hd h

/-- A truth value is put into a map. -/
theorem AWPL_mputB (K : List Nat) (v : Int) (y : Bool) {st : St} {all : Array Oper} {Q : Exit → St → Prop} {rest : List Oper} {o : Oper} {m x u : Operand} {t k e : TypeId} {id n : Nat} {f : Int → Bool}
    (hM : MapTyB P t k e) (hop : o.op = .mapUpdate t m x u) (hg : o.guard = none) (hdst : o.dst = none) (hm : opd st.s m = .mp id) (hb : st.h[id]? = some (some (.xo (MapIsB P k e n f))))
    (hx : opd st.s x = .int .i64 v) (hv : opd st.s u = .bool y) (hn : n < maxLen)
    (h : ∀ st', (⟨st.n, keepL K st.s, st.h.set id (some (.xo (MapIsB P k e (n + 1) (putB f v y))))⟩ : St) = st' → AWPL P w0 all Q rest st') : AWPL P w0 all Q (o :: rest) st := by
  intro F φ a w hrel
  have hmr := opd_rep hrel m
  rw [hm] at hmr
  have hxr := opd_rep hrel x
  rw [hx] at hxr
  have hvr := opd_rep hrel u
  rw [hv] at hvr
  have e3 := bool_inv hvr
  obtain ⟨e1, e2⟩ := int_inv hxr
  obtain ⟨g, q, q1, q2, es, clock, q3, q4, q5, q6⟩ := xo_at hrel.heap hb
  have em : a.eval m = .map (some g) := by
    generalize a.eval m = u at hmr
    cases hmr with | mp _ g' q' => rw [q] at q'; injection q' with q'; subst q'; rfl
  have hkl := hM.key e2.1 e2.2
  refine wpList_mapUpdate_own (H := Unit) w hg m x u t hop k e hM.keyed hM.und _ g n _ em ⟨es, clock, q3, q4, q5, rfl⟩ hn (.int .i64 v) (.bool y) _ e1 e3 hkl _ [] (plainElem_bool hM.elem y) fun w' hown hgr => ?_
  obtain ⟨es', clock', p1, p2, p3, p4⟩ := hown
  rw [hdst]
  have hno : ∀ j, j < w.heap.size → j ≠ g → w'.heap[j]? = w.heap[j]? := fun j hj hne => hgr.block j hj (fun e => hne (by injection e))
  have hbase : w0.heap.size ≤ g := q1
  have hnew := hrel.heap.turnMap hb q p1 (Pd' := MapIsB P k e (n + 1) (putB f v y)) ⟨p2, p3, fun z hz1 hz2 => by
    rw [← p4]
    by_cases hc : z = v
    · subst hc
      rw [Maps.atKey_put_same ⟨_, rfl⟩ (hM.keyed.key hkl)]
      simp [putB]
    · have hne : (Lit.int .i64 z) ≠ (.int .i64 v) := fun e => hc (by injection e)
      rw [Maps.atKey_put_other hne, q6 z hz1 hz2]
      simp [putB, hc]⟩ hno
  have hbel : Below w0.heap.size w0 w' := hrel.below.trans ⟨hgr.os, hgr.tape, hgr.output, hgr.size, fun j hj => hno j (Nat.lt_of_lt_of_le hj hrel.below.size) (by omega)⟩
  have hres : Rel F φ w0 ⟨st.n, st.s, st.h.set id (some (.xo (MapIsB P k e (n + 1) (putB f v y))))⟩ a w' := ⟨hnew, hrel.size, hrel.slots, hrel.defers, hbel⟩
  exact h _ rfl F φ _ w' (hres.keep K)

/-- A new map. -/
theorem AWPL_mkmapB (K : List Nat) (k e : TypeId) {st : St} {all : Array Oper} {Q : Exit → St → Prop} {rest : List Oper} {o : Oper} {t : TypeId} {d : Nat}
    (hop : o.op = .makeMap t none) (hg : o.guard = none) (hdst : o.dst = some d) (hd : d < st.n)
    (h : ∀ st', (⟨st.n, keepL K (putL st.s d (.mp st.h.length)), st.h ++ [some (.xo (MapIsB P k e 0 (fun _ => false)))]⟩ : St) = st' → AWPL P w0 all Q rest st') : AWPL P w0 all Q (o :: rest) st := by
  intro F φ a w hrel
  refine wpList_plain hg fun K' hK' => ?_
  unfold Oper.wp
  have hrun : (execOp a.eval o).run P w = .ok (.value (.map (some w.heap.size))) (w.alloc (.map #[] 0)) := by
    simp [execOp, hop, run_makeMap, Result.andThen]
  rw [hrun]
  refine hK' _ _ ?_
  obtain ⟨z1, z2⟩ := (⟨hrel.heap.belowR (w' := w.alloc (.map #[] 0)) ((Below.refl w.heap.size w).alloc (Nat.le_refl _) _), trivial⟩ : RelH F φ w0.heap.size st.h (w.alloc (.map #[] 0)) ∧ True)
  obtain ⟨hd1, hd2⟩ := z1.adoptL (.xo (MapIsB P k e 0 (fun _ => false))) (.mapAt w.heap.size) (.inr (.inr ⟨w.heap.size, by simp [upd], hrel.below.size, hrel.heap.new_none, #[], 0, heap_alloc_new w _, by
      refine ⟨⟨by simp, Go.MapKept.stamped_empty 0, by simp⟩, by simp, fun x _ _ => rfl⟩⟩)) (fun i bi g hi ho hg' => by
      have := hrel.heap.occ_lt hi ho
      have e : g = w.heap.size := hg'
      omega)
  rw [hdst]
  have hbel : Below w0.heap.size w0 (w.alloc (.map #[] 0)) := hrel.below.alloc hrel.below.size _
  have hres : Rel F (upd φ st.h.length (.mapAt w.heap.size)) w0 ⟨st.n, st.s, st.h ++ [some (.xo (MapIsB P k e 0 (fun _ => false)))]⟩ a (w.alloc (.map #[] 0)) := ⟨hd1, hrel.size, fun i => (hrel.slots i).le (FLe.refl F) hd2, hrel.defers, hbel⟩
  exact h _ rfl F _ _ _ ((hres.put hd (.mp _ _ (by simp [upd]))).keep K)
end
end Go.AX
