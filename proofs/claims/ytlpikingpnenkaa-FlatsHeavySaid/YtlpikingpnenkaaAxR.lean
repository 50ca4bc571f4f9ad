/-
 Regions that draw their order and call: calls that answer numbers may stand among what touches no memory; what stands behind all of it in its order may touch memory. Further rules: an answer under a guard that holds; empty lists of the call's own made where several ends come together.  Conditions: none.
-/
import Derived.Test.YtlpikingpnenkaaAxN
import Derived.Deep.Quiet
set_option linter.unusedSimpArgs false
set_option linter.unusedVariables false
namespace Go.AX
open Go Go.RowKit
/-! ### a head in any order, a tail in its own -/
/-- How many of the first n are not listed. -/
def unl : Nat → Array Bool → Nat
 | 0, _ => 0
 | n + 1, L => unl n L + if L.getD n true = false then 1 else 0
theorem unl_ge {n i : Nat} {L : Array Bool} (h : n ≤ i) : unl n (L.setIfInBounds i true) = unl n L := by
 induction n with
 | zero => rfl
 | succ n ih => simp only [unl]; rw [ih (by omega), getD_set_ne true (by omega)]
theorem unl_set {n i : Nat} {L : Array Bool} (h : i < n) (hi : L.getD i true = false) : unl n (L.setIfInBounds i true) + 1 = unl n L := by
 induction n with
 | zero => omega
 | succ n ih =>
  simp only [unl]
  rcases Nat.lt_or_ge i n with q | q
  ·have := ih q; rw [getD_set_ne true (by omega)]; omega
  ·have : i = n := by omega
   subst this
   rw [unl_ge (Nat.le_refl _), hi]
   have : (L.setIfInBounds i true).getD i true = true := by
    rcases Nat.lt_or_ge i L.size with q | q
    ·simp [q]
    ·rw [Array.getD_eq_getD_getElem?, Array.getElem?_eq_none (by simpa using q)]; rfl
   rw [this]; simp
theorem unl_zero {n : Nat} {L : Array Bool} (h : unl n L = 0) : ∀ i, i < n → L.getD i true = true := by
 induction n with
 | zero => intro i hi; omega
 | succ n ih =>
  simp only [unl] at h
  intro i hi
  rcases Nat.lt_or_ge i n with q | q
  ·exact ih (by omega) i q
  ·have : i = n := by omega
   subst this
   cases hL : L.getD i true
   ·rw [hL] at h; simp at h
   ·rfl
theorem unl_pos {n : Nat} {L : Array Bool} (h : unl n L ≠ 0) : ∃ i, i < n ∧ L.getD i true = false ∧ ∀ j, j < i → L.getD j true = true := by
 induction n with
 | zero => exact absurd rfl h
 | succ n ih =>
  by_cases hn : unl n L = 0
  ·refine ⟨n, by omega, ?_, fun j hj => unl_zero hn j hj⟩
   simp only [unl, hn] at h
   cases hL : L.getD n true
   ·rfl
   ·rw [hL] at h; simp at h
  ·obtain ⟨i, h1, h2, h3⟩ := ih hn
   exact ⟨i, by omega, h2, h3⟩
/-- What the first n wait for and look at is ahead of each. -/
def headB (ops : Array Oper) (n : Nat) : Bool := (List.range n).all fun i => match ops[i]? with
 | some o => (o.after.all fun e => !Region.binds .any e || decide (e.on < i)) && (match o.guard with | some g => decide (g.1 < i) | none => true)
 | none => false
section
variable {P : Program} {ops ops' : Array Oper} {n g : Nat} {C : World → Prop} {K : Act → Prop} {Q : Exit → Act → World → Prop}
theorem headB_spec (h : headB ops n = true) {i : Nat} (hi : i < n) : ∃ o, ops[i]? = some o ∧ (∀ e ∈ o.after, Region.binds .any e = true → e.on < i) ∧ ∀ g, o.guard = some g → g.1 < i := by
 have := List.all_eq_true.1 h i (List.mem_range.2 hi)
 split at this
 ·rename_i o ho
  simp only [Bool.and_eq_true] at this
  refine ⟨o, ho, fun e he hb => ?_, fun g hg => ?_⟩
  ·have h1 := Array.all_eq_true'.1 this.1 e he
   simp only [hb, Bool.not_true, Bool.false_or, decide_eq_true_eq] at h1
   exact h1
  ·rw [hg] at this; simpa using this.2
 ·cases this
theorem wanted_same (hops : ∀ i, i < n → ops'[i]? = ops[i]?) {o : Oper} (hg : ∀ g, o.guard = some g → g.1 < n) (t : Array Value) : Region.wanted o (yielded ops' t) = Region.wanted o (yielded ops t) := by
 unfold Region.wanted
 cases h : o.guard with
 | none => rfl
 | some q =>
  have := hg q h
  simp only [yielded, hops q.1 this]
theorem wpAny_bridge (hB : headB ops n = true) (hs : Region.sinkB .any ops n = true) (hc : Region.chainB .any ops n = true) (hn : n < ops.size) (hops : ∀ i, i < n → ops'[i]? = ops[i]?) (hsz : ops'.size = n)
  (hfin : ∀ L a w, L.size = ops.size → (∀ i, i < n → L.getD i true = true) → (∀ t, n ≤ t → t < ops.size → L.getD t true = false) → C w → K a → wpAny P .any ops Q g L a w) :
  ∀ (f : Nat) (L' L : Array Bool) (a : Act) (w : World), L'.size = n → (∀ i, i < n → L[i]? = L'[i]?) → HeadInv .any ops n L → unl n L = f → C w → wpAnyQ P .any ops' C K f L' a → wpAny P .any ops Q (f + g) L a w := by
 intro f
 induction f with
 | zero =>
  intro L' L a w hL' hsim hinv hu hC h
  rw [Nat.zero_add]
  exact hfin L a w hinv.size (unl_zero hu) hinv.tail hC h.2
 | succ f ih =>
  intro L' L a w hL' hsim hinv hu hC h
  rw [show f + 1 + g = (f + g) + 1 by omega]
  obtain ⟨i0, h1, h2, h3⟩ := unl_pos (n := n) (L := L) (by omega)
  have getD' : ∀ (d : Bool) i, i < n → L.getD i d = L'.getD i d := fun d i hi => by rw [Array.getD_eq_getD_getElem?, Array.getD_eq_getD_getElem?, hsim i hi]
  have ready' : ∀ i, i < n → (i ∈ Region.ready .any ops L ↔ i ∈ Region.ready .any ops' L') := fun i hi => by
   obtain ⟨o, ho, he, _⟩ := headB_spec hB hi
   rw [mem_ready, mem_ready, getD' true i hi]
   constructor
   ·rintro ⟨q1, o', q2, q3⟩
    refine ⟨q1, o', by rw [hops i hi]; exact q2, fun e hee hb => ?_⟩
    rw [ho] at q2; cases q2
    rw [← getD' false e.on (by have := he e hee hb; omega)]; exact q3 e hee hb
   ·rintro ⟨q1, o', q2, q3⟩
    rw [hops i hi] at q2
    refine ⟨q1, o', q2, fun e hee hb => ?_⟩
    rw [ho] at q2; cases q2
    rw [getD' false e.on (by have := he e hee hb; omega)]; exact q3 e hee hb
  have hready : i0 ∈ Region.ready .any ops L := by
   obtain ⟨o, ho, he, _⟩ := headB_spec hB h1
   rw [mem_ready]
   refine ⟨h2, o, ho, fun e hee hb => ?_⟩
   have hlt := he e hee hb
   have h4 := h3 e.on hlt
   have hsz' : e.on < L.size := by rw [hinv.size]; omega
   simpa [Array.getD_eq_getD_getElem?, Array.getElem?_eq_getElem hsz'] using h4
  refine ⟨fun h0 => (by rw [h0] at hready; cases hready), fun i hi => ?_⟩
  have hin : i < n := by
   rcases Nat.lt_or_ge i n with q | q
   ·exact q
   ·exact absurd hi (tail_waits hs hc hn hinv _ i0 rfl h1 h2 i q)
  have hq := h.2 i ((ready' i hin).1 hi)
  have hun : L.getD i true = false := (mem_ready.1 hi).1
  have step : wpOp P ops' Q i (wpAny P .any ops Q (f + g) (L.setIfInBounds i true)) a w := by
   refine wpOp_of_qOp hC (fun a' w' hw' hk => ?_) hq
   refine ih (L'.setIfInBounds i true) (L.setIfInBounds i true) a' w' (by simpa using hL') (fun j hj => ?_) (hinv.set hi hin) ?_ hw' hk
   ·by_cases e : i = j
    ·subst e
     rw [Array.getElem?_setIfInBounds_self_of_lt (by rw [hinv.size]; omega), Array.getElem?_setIfInBounds_self_of_lt (by omega)]
    ·rw [Array.getElem?_setIfInBounds_ne e, Array.getElem?_setIfInBounds_ne e]; exact hsim j hj
   ·have := unl_set hin hun; omega
  obtain ⟨o, ho, _, hg⟩ := headB_spec hB hin
  unfold wpOp at step ⊢
  rw [hops i hin, ho] at step
  rw [ho]
  simp only at step ⊢
  rw [wanted_same hops (fun q hq => by have := hg q hq; omega)] at step
  exact step
theorem full_eq {n g : Nat} {L : Array Bool} (hs : L.size = n + g) (h1 : ∀ i, i < n → L.getD i true = true) (h2 : ∀ t, n ≤ t → t < n + g → L.getD t true = false) : L = Array.replicate n true ++ Array.replicate g false := by
 apply Array.ext
 ·simp [hs]
 ·intro i hi hi'
  have hget : L.getD i true = L[i] := by simp [Array.getD_eq_getD_getElem?, Array.getElem?_eq_getElem hi]
  rcases Nat.lt_or_ge i n with q | q
  ·rw [← hget, h1 i q, Array.getElem_append_left (by simpa using q)]; simp
  ·rw [← hget, h2 i q (by omega), Array.getElem_append_right (by simpa using q)]; simp
/-- The head quiet, the tail in its order. -/
theorem wp_region_quiet_tail {id : Nat} {a : Act} {w : World} {l : List Oper} (n : Nat) (hm : P.follows .mixedOrders = true)
  (hB : (headB l.toArray n && Region.sinkB .any l.toArray n && Region.chainB .any l.toArray n && decide (n < l.length) && Region.lexB .any (l.take n).toArray && Region.seqB .any l.toArray (l.length - n) n (Array.replicate n true ++ Array.replicate (l.length - n) false)) = true)
  (hC : C { w with drawn := w.drawn + 1 }) (h : wpQuiet P (l.take n).toArray C (fun a' => ∀ w', C w' → wpList P l.toArray Q (l.drop n) a' w') (l.take n) a) : (Code.region id l.toArray true).wp P Q a w := by
 simp only [Bool.and_eq_true, decide_eq_true_eq] at hB
 obtain ⟨⟨⟨⟨⟨h1, h2⟩, h3⟩, h4⟩, h5⟩, h6⟩ := hB
 simp only [Region.lexB, Bool.and_eq_true] at h5
 have hlen : (l.take n).length = n := by simp; omega
 refine wp_region_any hm ?_
 have hq := wpAnyQ_lex (P := P) (C := C) (md := .any) (ops := (l.take n).toArray) h5.1 (l.take n) 0 (Array.replicate (l.take n).toArray.size false) a (by simp) (by simpa using h5.2) h
 have hsize : (l.take n).toArray.size = n := by simpa using hlen
 rw [hsize, hlen] at hq
 have key := wpAny_bridge (P := P) (Q := Q) (g := l.length - n) (ops := l.toArray) (ops' := (l.take n).toArray) (n := n) (C := C) h1 h2 h3 (by simpa using h4) (fun i hi => by simp [hi]) hsize
  (fun L a w hL hl1 hl2 hw hk => by
   have hL' : L.size = n + (l.length - n) := by rw [hL]; simp; omega
   rw [full_eq hL' hl1 (fun t ht ht' => hl2 t ht (by simp; omega))]
   have hd : (l.drop n).length = l.length - n := by simp
   have := wpAny_of_seq (P := P) (md := .any) (ops := l.toArray) (Q' := Q) (l.drop n) n (Array.replicate n true ++ Array.replicate (l.length - n) false) a w (fun j => by simp [List.getElem?_drop]) (by rw [hd]; exact h6) (hk w hw)
   rwa [hd] at this)
  n (Array.replicate n false) (Array.replicate l.toArray.size false) a _ (by simp) (fun i hi => by simp [Array.getElem?_replicate, hi]; omega)
  ⟨by simp, fun j oj _ hl => (by rw [getD_replicate_false] at hl; cases hl), fun t _ ht => getD_in (by simpa using ht) (getD_replicate_false _ _)⟩
  (by
   have : ∀ k, k ≤ l.length → unl k (Array.replicate l.toArray.size false) = k := by
    intro k
    induction k with
    | zero => intro _; rfl
    | succ k ih =>
     intro hk
     simp only [unl]
     rw [ih (by omega), getD_in (by simp; omega) (getD_replicate_false _ _)]; simp
   exact this n (by omega)) hC hq
 have e : n + (l.length - n) = l.toArray.size := by simp; omega
 rw [e] at key
 exact key
end
/-! ### on abstract states -/
/-- Nothing below has turned. -/
def Cq (w : World) : World → Prop := fun w' => Below w.heap.size w w'
section
variable {P : Program} {T : Tab} {w0 : World} {α κ ρ' : Type}
theorem Rel.belowR {F : Fz} {φ : Phi} {st : St} {a : Act} {w w' : World} (h : Rel F φ w0 st a w) (hb : Below w.heap.size w w') : Rel F φ w0 st a w' :=
 ⟨h.heap.belowR hb, h.size, h.slots, h.defers, h.below.trans (hb.mono h.below.size)⟩
def AWQL (P : Program) (w0 : World) (all : Array Oper) (Q : Exit → St → Prop) (l : List Oper) (st : St) : Prop :=
 ∀ F φ a w, Rel F φ w0 st a w → wpQuiet P all (Cq w) (fun a' => ∀ w', Cq w w' → ∃ st' φ', Q .normal st' ∧ Rel F φ' w0 st' a' w') l a
theorem wpQuiet_mono {ops : Array Oper} {C : World → Prop} {K K' : Act → Prop} (hk : ∀ a, K a → K' a) : ∀ (l : List Oper) (a : Act), wpQuiet P ops C K l a → wpQuiet P ops C K' l a
 | [], a, h => hk a h
 | o :: l, a, h => by
  unfold wpQuiet at h ⊢
  split at h
  ·rename_i hw; rw [if_pos hw]; exact Oper.quiet_mono (fun a => wpQuiet_mono hk l a) h
  ·rename_i hw; rw [if_neg hw]; exact wpQuiet_mono hk l _ h
theorem AWQL_nil {all : Array Oper} {Q : Exit → St → Prop} {st : St} (h : Q .normal st) : AWQL P w0 all Q [] st :=
 fun F φ a w hr => wpQuiet_nil fun w' hw' => ⟨st, φ, h, hr.belowR hw'⟩
theorem AWQL_done {all all' : Array Oper} {Q : Exit → St → Prop} {l' : List Oper} {st : St} (h : AWPL P w0 all' Q l' st) : AWQL P w0 all (fun _ st' => AWPL P w0 all' Q l' st') [] st := AWQL_nil h
theorem AWQL_step (hT : TabOk P T) {all : Array Oper} {Q : Exit → St → Prop} {st : St} {o : Oper} {rest : List Oper} (hc : (stepP T all o st).1 = true) (h : AWQL P w0 all Q rest (stepP T all o st).2) : AWQL P w0 all Q (o :: rest) st := by
 intro F φ a w hr
 refine wpQuiet_step fun K hK => ?_
 rcases stepP_ok hT hr hc with ⟨h1, u, h2, h3⟩ | ⟨h1, h3⟩
 ·rw [if_pos h1]
  refine ⟨u, fun w' hw' => ?_, hK _ (h F φ _ w h3)⟩
  unfold Oper.quietAt
  rw [h2 w' hw']
  exact ⟨rfl, rfl⟩
 ·rw [if_neg (by simp [h1])]
  exact hK _ (h F φ _ w h3)
theorem AWQL_runP (hT : TabOk P T) {all : Array Oper} {Q : Exit → St → Prop} {rest : List Oper} : ∀ {l : List Oper} {st : St}, (runP T all l st).1 = true → AWQL P w0 all Q rest (runP T all l st).2 → AWQL P w0 all Q (l ++ rest) st
 | [], _, _, h => h
 | o :: l, st, hc, h => by
  simp only [runP, Bool.and_eq_true] at hc h
  exact AWQL_step hT hc.1 (AWQL_runP hT hc.2 h)
theorem AWQL_keep (K : List Nat) {all : Array Oper} {Q : Exit → St → Prop} {l : List Oper} {st : St} (h : AWQL P w0 all Q l ⟨st.n, keepL K st.s, st.h⟩) : AWQL P w0 all Q l st := fun F φ a w hr => h F φ a w (hr.keep K)
theorem AWQL_rn (hT : TabOk P T) (n : Nat) (K : List Nat) {all : Array Oper} {Q : Exit → St → Prop} {l : List Oper} {st : St}
  (h : ∀ c st', runPK T K all (l.take n) st = (c, st') → c = true ∧ AWQL P w0 all Q (l.drop n) st') : AWQL P w0 all Q l st := by
 obtain ⟨h1, h2⟩ := h _ _ rfl
 rw [← List.take_append_drop n l]
 exact AWQL_runP hT h1 (AWQL_keep K h2)
/-- The value of what is a number, a truth value or several of these. -/
def detV : AVal → Option Value
 | .int k n => some (.int k n)
 | .bool b => some (.bool b)
 | .tup [.int k n, .bool b] => some (.tuple #[.int k n, .bool b])
 | .tup [.bool b, .int k n] => some (.tuple #[.bool b, .int k n])
 | .tup [.int k n, .int k' n'] => some (.tuple #[.int k n, .int k' n'])
 | .tup [.int k n, .int k' n', .int k2 n2] => some (.tuple #[.int k n, .int k' n', .int k2 n2])
 | _ => none
theorem detV_rep {F : Fz} {φ : Phi} {x : AVal} {v u : Value} (h : detV x = some v) (hr : RepV F φ x u) : u = v := by
 have two : ∀ {x y : AVal} {a b u : Value}, RepV F φ (.tup [x, y]) u → (∀ u, RepV F φ x u → u = a) → (∀ u, RepV F φ y u → u = b) → u = .tuple #[a, b] := by
  intro x y a b u hr h1 h2
  cases hr with | tup _ vs hl h3 => ?_
  match vs, hl with
  | ⟨[p, q]⟩, _ => rw [h1 p (h3 0 _ _ rfl rfl), h2 q (h3 1 _ _ rfl rfl)]
 unfold detV at h
 split at h <;> cases h
 ·exact (int_inv hr).1
 ·exact bool_inv hr
 ·exact two hr (fun _ h => (int_inv h).1) (fun _ h => bool_inv h)
 ·exact two hr (fun _ h => bool_inv h) (fun _ h => (int_inv h).1)
 ·exact two hr (fun _ h => (int_inv h).1) (fun _ h => (int_inv h).1)
 ·cases hr with | tup _ vs hl h3 => ?_
  match vs, hl with
  | ⟨[p, q, r]⟩, _ => rw [(int_inv (h3 0 _ p rfl rfl)).1, (int_inv (h3 1 _ q rfl rfl)).1, (int_inv (h3 2 _ r rfl rfl)).1]
theorem detV_any {F F' : Fz} {φ φ' : Phi} {x : AVal} {v u : Value} (h : detV x = some v) (hr : RepV F' φ' x u) : RepV F φ x v := by
 have int : ∀ {k : IntKind} {n : Int} {u : Value}, RepV F' φ' (.int k n) u → RepV F φ (.int k n) (.int k n) := fun h => .int _ _ (int_inv h).2.1 (int_inv h).2.2
 have two : ∀ {x y : AVal} {a b u : Value}, RepV F' φ' (.tup [x, y]) u → (∀ u, RepV F' φ' x u → RepV F φ x a) → (∀ u, RepV F' φ' y u → RepV F φ y b) → RepV F φ (.tup [x, y]) (.tuple #[a, b]) := by
  intro x y a b u hr h1 h2
  cases hr with | tup _ vs hl h3 => ?_
  match vs, hl with
  | ⟨[p, q]⟩, _ =>
   refine .tup _ _ rfl fun i z v hz hv => ?_
   match i, hz, hv with
   | 0, hz, hv => cases hz; cases hv; exact h1 p (h3 0 _ _ rfl rfl)
   | 1, hz, hv => cases hz; cases hv; exact h2 q (h3 1 _ _ rfl rfl)
 unfold detV at h
 split at h <;> cases h
 ·exact int hr
 ·exact .bool _
 ·exact two hr (fun _ h => int h) (fun _ h => .bool _)
 ·exact two hr (fun _ h => .bool _) (fun _ h => int h)
 ·exact two hr (fun _ h => int h) (fun _ h => int h)
 ·cases hr with | tup _ vs hl h3 => ?_
  match vs, hl with
  | ⟨[p, q, r]⟩, _ =>
   refine .tup _ _ rfl fun i z v hz hv => ?_
   match i, hz, hv with
   | 0, hz, hv => cases hz; cases hv; exact int (h3 0 _ p rfl rfl)
   | 1, hz, hv => cases hz; cases hv; exact int (h3 1 _ q rfl rfl)
   | 2, hz, hv => cases hz; cases hv; exact int (h3 2 _ r rfl rfl)
theorem AWQL_call {all : Array Oper} {Q : Exit → St → Prop} {rest : List Oper} {st : St} {o : Oper} {fo : Operand} {args : Array Operand} {tys : Array TypeId} {d f : Nat} {caps ys : List AVal} {r : AVal} {rv : Value}
  (hop : o.op = .call ⟨.value fo, args, tys⟩) (hdst : o.dst = some d) (hpc : pcOf all st.s o.guard = (true, true)) (hf : opd st.s fo = .func f caps) (hcall : ∀ args w, (callFunc f args).run P w = .ok (.enter f args) w)
  (hP : Pure P f ys r []) (hargs : ArgsOk st.h ((args.toList.map fun x => sv (opd st.s x)) ++ caps) ys) (hsc : (args.toList.all fun x => sc true (opd st.s x)) = true) (hd : d < st.n) (hdet : detV r = some rv)
  (h : AWQL P w0 all Q rest { st with s := putL st.s d r }) : AWQL P w0 all Q (o :: rest) st := by
 intro F φ a w hrel
 have hwant : Region.wanted o (yielded all a.tmps) = true := by rw [pc_wanted hrel (by rw [hpc]), hpc]
 refine wpQuiet_step fun K hK => ?_
 rw [if_pos hwant]
 -- what the call does, in every such world
 have hcalls : ∀ w', Cq w w' → o.quietAt P a (Cq w) w' rv ∧ RepV F φ r rv := by
  intro w' hw'
  have hrel' := hrel.belowR hw'
  have hfr := opd_rep hrel' fo
  rw [hf] at hfr
  obtain ⟨cv, hcv, hcl, hcr⟩ : ∃ cv : Array Value, a.eval fo = .func (.func f) #[] cv ∧ caps.length = cv.size ∧ ∀ (i : Nat) (x : AVal) (v : Value), caps[i]? = some x → cv[i]? = some v → RepV F φ x v := by
   generalize a.eval fo = u at hfr
   cases hfr with | func _ _ vs h1 h2 => exact ⟨vs, rfl, h1, h2⟩
  have hrun : (execOp a.eval o).run P w' = .ok (.enter f (args.map a.eval ++ cv)) w' := by
   simp only [execOp, hop, resolve, hcv, Deferred.ofValue, Sem.run_bind, Sem.run_pure, Result.andThen_ok, invoke, Array.empty_append, hcall]
  obtain ⟨g1, g2⟩ := hargs.get
  have hlen : ys.length = (args.map a.eval ++ cv).size := by rw [← g1]; simp [hcl]
  have hc := hP w' (addOwn F φ st.h w') (args.map a.eval ++ cv) (addOwn_agree hrel'.heap) hlen (fun i y v hy hv => by
   have hi : i < ((args.toList.map fun x => sv (opd st.s x)) ++ caps).length := by
    rw [g1]
    rcases Nat.lt_or_ge i ys.length with c | c
    ·exact c
    ·rw [List.getElem?_eq_none c] at hy; cases hy
   have hx := List.getElem?_eq_getElem hi
   refine argOk_rep hrel'.heap (g2 i _ y hx hy) ?_
   rw [List.getElem?_append] at hx
   rw [Array.getElem?_append] at hv
   simp only [List.length_map, Array.length_toList] at hx
   simp only [Array.size_map] at hv
   split at hx
   ·rename_i hlt
    rw [if_pos hlt] at hv
    rw [List.getElem?_map, Array.getElem?_toList] at hx
    rw [Array.getElem?_map] at hv
    cases hq : args[i]? with
    | none => rw [hq] at hv; cases hv
    | some q =>
     rw [hq] at hx hv
     simp only [Option.map_some, Option.some.injEq] at hx hv
     rw [← hx, ← hv]
     exact ev_rep hrel' (List.all_eq_true.1 hsc q (Array.mem_toList_iff.2 (Array.mem_of_getElem? hq)))
   ·rename_i hge
    rw [if_neg hge] at hv
    exact hcr _ _ v hx hv)
  refine ⟨?_, ?_⟩
  ·unfold Oper.quietAt
   rw [hrun]
   refine ⟨rfl, hc.mono fun e w'' hq => ?_⟩
   obtain ⟨v, F', φ', rfl, _, _, hv, hb⟩ := hq
   exact ⟨by rw [detV_rep hdet hv], Below.trans hw' (hb.mono hw'.size)⟩
  ·obtain ⟨e, w2, fr, ⟨v, F', φ', _, _, _, hv, _⟩, _⟩ := hc []
   exact detV_any hdet hv
 refine ⟨rv, fun w' hw' => (hcalls w' hw').1, hK _ ?_⟩
 rw [hdst]
 exact h F φ _ w (hrel.put hd (hcalls w (Below.refl _ _)).2)
theorem AWQL_callK (K : List Nat) {st : St} {all : Array Oper} {Q : Exit → St → Prop} {rest : List Oper} {o : Oper} {fo : Operand} {args : Array Operand} {tys : Array TypeId} {d f : Nat} {caps ys : List AVal} {r : AVal}
  (hP : Pure P f ys r []) (hop : o.op = .call ⟨.value fo, args, tys⟩) (hdst : o.dst = some d) (hpc : pcOf all st.s o.guard = (true, true)) (hf : opd st.s fo = .func f caps) (hcall : ∀ args w, (callFunc f args).run P w = .ok (.enter f args) w)
  (hargs : ArgsOk st.h ((args.toList.map fun x => sv (opd st.s x)) ++ caps) ys) (hsc : (args.toList.all fun x => sc true (opd st.s x)) = true) (hd : d < st.n) (hdet : (detV r).isSome = true)
  (h : ∀ st', (⟨st.n, keepL K (putL st.s d r), st.h⟩ : St) = st' → AWQL P w0 all Q rest st') : AWQL P w0 all Q (o :: rest) st := by
 obtain ⟨rv, hrv⟩ := Option.isSome_iff_exists.1 hdet
 exact AWQL_call hop hdst hpc hf hcall hP hargs hsc hd hrv (AWQL_keep K (h _ rfl))
/-- A region that draws its order, all of it quiet. -/
theorem AWP_drawQ {id : Nat} {l : List Oper} {Q : Exit → St → Prop} {st : St} (hm : P.follows .mixedOrders = true) (hB : Region.lexB .any l.toArray = true) (h : AWQL P w0 l.toArray Q l st) : AWP P w0 (.region id l.toArray true) Q st := by
 intro F φ a w hr
 exact wp_region_quiet (C := Cq { w with drawn := w.drawn + 1 }) hm hB (Below.refl _ _) (wpQuiet_mono (fun a' hk w' hw' => let ⟨st', φ', q, r⟩ := hk w' hw'; ⟨st', F, φ', q, FLn.refl F, r⟩) _ _ (h F φ a { w with drawn := w.drawn + 1 } hr.drew'))
/-- The same, its last operations in their order. -/
theorem AWP_drawQT (n : Nat) {id : Nat} {l : List Oper} {Q : Exit → St → Prop} {st : St} (hm : P.follows .mixedOrders = true)
  (hB : (headB l.toArray n && Region.sinkB .any l.toArray n && Region.chainB .any l.toArray n && decide (n < l.length) && Region.lexB .any (l.take n).toArray && Region.seqB .any l.toArray (l.length - n) n (Array.replicate n true ++ Array.replicate (l.length - n) false)) = true)
  (h : AWQL P w0 (l.take n).toArray (fun _ st' => AWPL P w0 l.toArray Q (l.drop n) st') (l.take n) st) : AWP P w0 (.region id l.toArray true) Q st := by
 intro F φ a w hr
 refine wp_region_quiet_tail (C := Cq { w with drawn := w.drawn + 1 }) n hm hB (Below.refl _ _) ?_
 refine wpQuiet_mono (fun a' hk w' hw' => ?_) _ _ (h F φ a { w with drawn := w.drawn + 1 } hr.drew')
 obtain ⟨st', φ', q, r⟩ := hk w' hw'
 exact q F φ' a' w' r
end
end Go.AX
set_option linter.unusedSimpArgs false
set_option linter.unusedVariables false
namespace Go.AX
open Go Go.RowKit
section
variable {P : Program} {T : Tab} {w0 : World}
/-- The same slots, in another order, perhaps fewer. -/
def SameS (s : List (Nat × AVal)) : List (Nat × AVal) → Prop
 | [] => True
 | (i, x) :: r => look s i = x ∧ SameS s r
theorem SameS.look {s : List (Nat × AVal)} : ∀ {s' : List (Nat × AVal)}, SameS s s' → ∀ i, AX.look s' i = AX.look s i ∨ AX.look s' i = .junk
 | [], _, _ => .inr rfl
 | (k, x) :: r, h, i => by
  simp only [SameS] at h
  simp only [AX.look]
  split
  ·rename_i e; subst e; exact .inl h.1.symm
  ·exact h.2.look i
theorem Rel.sameS {F : Fz} {φ : Phi} {st : St} {a : Act} {w : World} (h : Rel F φ w0 st a w) {s' : List (Nat × AVal)} (hs : SameS st.s s') : Rel F φ w0 ⟨st.n, s', st.h⟩ a w :=
 Rel.reslot h (s' := s') fun i v hv => by
  rcases hs.look i with e | e
  ·rw [e]; exact hv
  ·rw [e]; exact .junk _
theorem AWPL_stP (s' : List (Nat × AVal)) {st : St} {all : Array Oper} {Q : Exit → St → Prop} {l : List Oper} (hs : SameS st.s s') (h : AWPL P w0 all Q l ⟨st.n, s', st.h⟩) : AWPL P w0 all Q l st :=
 fun F φ a w hr => h F φ a w (hr.sameS hs)
/-- What lies in a variable's cell is forgotten. -/
theorem Rel.forgetH {F : Fz} {φ : Phi} {st : St} {a : Act} {w : World} (h : Rel F φ w0 st a w) {id : Nat} (j : Nat) {et : TypeId} {sz : Nat} {e : List AVal} (hid : st.h[id]? = some (some (.gen et sz [e]))) :
  Rel F φ w0 ⟨st.n, st.s, st.h.set id (some (.gen et sz [e.set j .junk]))⟩ a w := by
 refine ⟨?_, h.size, h.slots, h.defers, h.below⟩
 rcases (h.heap.blk id _ hid).nxC rfl with ⟨q1, q2⟩ | ⟨g, cap, cur, q1, q2, q3, q4, q5, q6, q7, q8⟩
 ·simp [Blk.es] at q2
 ·refine h.heap.turn (hp := rfl) (b' := .gen et sz [e.set j .junk]) hid q1 rfl rfl q4 (fun k _ => rfl) (by simpa [Blk.es] using q5) q7 fun i e' he' => ?_
  match i, he' with
  | 0, he' =>
   simp [Blk.es] at he'; subst he'
   obtain ⟨r1, r2⟩ := q8 0 e rfl
   refine ⟨by simpa using r1, fun k x hx => ?_⟩
   rw [List.getElem?_set] at hx
   split at hx
   ·rename_i hjk; subst hjk
    split at hx
    ·cases hx
     rename_i hl
     obtain ⟨u, u1, u2, u3⟩ := r2 j _ (List.getElem?_eq_getElem hl)
     exact ⟨_, u1, .junk _, u3⟩
    ·cases hx
   ·exact r2 k x hx
theorem AWP_forgetH (id j : Nat) {et : TypeId} {sz : Nat} {e : List AVal} {c : Code} {Q : Exit → St → Prop} {st : St} (hid : st.h[id]? = some (some (.gen et sz [e])))
  (h : ∀ st', (⟨st.n, st.s, st.h.set id (some (.gen et sz [e.set j .junk]))⟩ : St) = st' → AWP P w0 c Q st') : AWP P w0 c Q st :=
 fun F φ a w hr => h _ rfl F φ a w (hr.forgetH j hid)
end
end Go.AX
