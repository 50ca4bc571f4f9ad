/-
  Further rules: an answer under a guard that holds; empty lists of the call's own made where several ends come together. Conditions: none.
-/
import Derived.Test.YtcjhpcbipcdhiaaAxQ
set_option linter.unusedSimpArgs false
set_option linter.unusedVariables false
namespace Go.AX
open Go Go.RowKit
section
variable {P : Program} {T : Tab} {w0 : World}

theorem Rel.unopt {F : Fz} {φ : Phi} {st : St} {a : Act} {w : World} (h : Rel F φ w0 st a w) {i : Nat} {x : AVal} (hi : look st.s i = .opt true x) : Rel F φ w0 ⟨st.n, putL st.s i x, st.h⟩ a w :=
  Rel.reslot h (s' := putL st.s i x) fun k v hv => by
    rw [look_putL]
    split
    · rename_i e; subst e
      rw [hi] at hv
      cases hv with | opt _ _ _ h1 h2 => exact h1 rfl
    · exact hv
theorem AWPL_unopt (i : Nat) (x : AVal) {st : St} {all : Array Oper} {Q : Exit → St → Prop} {l : List Oper} (hi : look st.s i = .opt true x) (h : ∀ st', (⟨st.n, putL st.s i x, st.h⟩ : St) = st' → AWPL P w0 all Q l st') : AWPL P w0 all Q l st :=
  fun F φ a w hr => h _ rfl F φ a w (hr.unopt hi)
theorem AWQL_unopt (i : Nat) (x : AVal) {st : St} {all : Array Oper} {Q : Exit → St → Prop} {l : List Oper} (hi : look st.s i = .opt true x) (h : ∀ st', (⟨st.n, putL st.s i x, st.h⟩ : St) = st' → AWQL P w0 all Q l st') : AWQL P w0 all Q l st :=
  fun F φ a w hr => h _ rfl F φ a w (hr.unopt hi)

/-- The same slots, in another order, perhaps fewer. -/
def SameS (s : List (Nat × AVal)) : List (Nat × AVal) → Prop
  | [] => True
  | (i, x) :: r => look s i = x ∧ SameS s r
theorem SameS.look {s : List (Nat × AVal)} : ∀ {s' : List (Nat × AVal)}, SameS s s' → ∀ i, AX.look s' i = AX.look s i ∨ AX.look s' i = .junk
  | [], _, _ => .inr rfl
  | (k, x) :: r, h, i => by
    simp only [SameS] at h
    simp only [AX.look]
    split
    · rename_i e; subst e; exact .inl h.1.symm
    · exact h.2.look i
theorem Rel.sameS {F : Fz} {φ : Phi} {st : St} {a : Act} {w : World} (h : Rel F φ w0 st a w) {s' : List (Nat × AVal)} (hs : SameS st.s s') : Rel F φ w0 ⟨st.n, s', st.h⟩ a w :=
  Rel.reslot h (s' := s') fun i v hv => by
    rcases hs.look i with e | e
    · rw [e]; exact hv
    · rw [e]; exact .junk _
theorem AWPL_stP (s' : List (Nat × AVal)) {st : St} {all : Array Oper} {Q : Exit → St → Prop} {l : List Oper} (hs : SameS st.s s') (h : AWPL P w0 all Q l ⟨st.n, s', st.h⟩) : AWPL P w0 all Q l st :=
  fun F φ a w hr => h F φ a w (hr.sameS hs)
theorem AWQL_stP (s' : List (Nat × AVal)) {st : St} {all : Array Oper} {Q : Exit → St → Prop} {l : List Oper} (hs : SameS st.s s') (h : AWQL P w0 all Q l ⟨st.n, s', st.h⟩) : AWQL P w0 all Q l st :=
  fun F φ a w hr => h F φ a w (hr.sameS hs)

/-- Behind some nil slots turned into empty lists of the call's own. -/
def DQ (w0 : World) (Q : Exit → St → Prop) (e : Exit) (st : St) : Prop := ∃ st', (∀ F φ a w, Rel F φ w0 st a w → ∃ φ', Rel F φ' w0 st' a w) ∧ Q e st'
theorem AWP_D {c : Code} {Q : Exit → St → Prop} {st : St} (h : AWP P w0 c (DQ w0 Q) st) : AWP P w0 c Q st := fun F φ a w hr =>
  wp_mono (h F φ a w hr) fun e a' w' ⟨st1, F', φ1, ⟨st2, hs, hq⟩, f, r⟩ => by
    obtain ⟨φ2, r2⟩ := hs F' φ1 a' w' r
    exact ⟨st2, F', φ2, hq, f, r2⟩
theorem dq_done {Q : Exit → St → Prop} {e : Exit} {st : St} (h : Q e st) : DQ w0 Q e st := ⟨st, fun _ φ _ _ r => ⟨φ, r⟩, h⟩
theorem dq_own (i : Nat) (b : Blk) {Q : Exit → St → Prop} {e : Exit} {st : St} (hb : b.es = []) (hi : look st.s i = .nil) (h : ∀ st', (⟨st.n, putL st.s i (.own st.h.length 0), st.h ++ [some b]⟩ : St) = st' → DQ w0 Q e st') : DQ w0 Q e st := by
  obtain ⟨st2, h1, h2⟩ := h _ rfl
  exact ⟨st2, fun F φ a w r => h1 F _ a w (r.nilOwn hi hb), h2⟩
theorem dq_ownH (id j : Nat) (b : Blk) {et : TypeId} {sz : Nat} {es : List AVal} {Q : Exit → St → Prop} {e : Exit} {st : St} (hb : b.es = []) (hid : st.h[id]? = some (some (.gen et sz [es]))) (hj : es[j]? = some .nil)
    (h : ∀ st', (⟨st.n, st.s, (st.h ++ [some b]).set id (some (.gen et sz [es.set j (.own st.h.length 0)]))⟩ : St) = st' → DQ w0 Q e st') : DQ w0 Q e st := by
  obtain ⟨st2, h1, h2⟩ := h _ rfl
  exact ⟨st2, fun F φ a w r => h1 F _ a w (r.nilOwnH hid hj hb), h2⟩
/-- What lies in a variable's cell is forgotten. -/
theorem Rel.forgetH {F : Fz} {φ : Phi} {st : St} {a : Act} {w : World} (h : Rel F φ w0 st a w) {id : Nat} (j : Nat) {et : TypeId} {sz : Nat} {e : List AVal} (hid : st.h[id]? = some (some (.gen et sz [e]))) :
    Rel F φ w0 ⟨st.n, st.s, st.h.set id (some (.gen et sz [e.set j .junk]))⟩ a w := by
  refine ⟨?_, h.size, h.slots, h.defers, h.below⟩
  rcases h.heap.blk id _ hid with ⟨q1, q2⟩ | ⟨g, cap, cur, q1, q2, q3, q4, q5, q6, q7, q8⟩
  · simp [Blk.es] at q2
  · refine h.heap.turn (b' := .gen et sz [e.set j .junk]) hid q1 rfl rfl q4 (fun k _ => rfl) (by simpa [Blk.es] using q5) q7 fun i e' he' => ?_
    match i, he' with
    | 0, he' =>
      simp [Blk.es] at he'; subst he'
      obtain ⟨r1, r2⟩ := q8 0 e rfl
      refine ⟨by simpa using r1, fun k x hx => ?_⟩
      rw [List.getElem?_set] at hx
      split at hx
      · rename_i hjk; subst hjk
        split at hx
        · cases hx
          rename_i hl
          obtain ⟨u, u1, u2, u3⟩ := r2 j _ (List.getElem?_eq_getElem hl)
          exact ⟨_, u1, .junk _, u3⟩
        · cases hx
      · exact r2 k x hx
theorem AWP_forgetH (id j : Nat) {et : TypeId} {sz : Nat} {e : List AVal} {c : Code} {Q : Exit → St → Prop} {st : St} (hid : st.h[id]? = some (some (.gen et sz [e])))
    (h : ∀ st', (⟨st.n, st.s, st.h.set id (some (.gen et sz [e.set j .junk]))⟩ : St) = st' → AWP P w0 c Q st') : AWP P w0 c Q st :=
  fun F φ a w hr => h _ rfl F φ a w (hr.forgetH j hid)
end
end Go.AX
