/-
 Whole numbers behind pointers: a nil list in a cell becomes a list of the call's own, a list is cut short, slots are written anew. Conditions: none.
-/
import Derived.Test.YtlpikingpnenkaaAxRx
import Derived.Test.YtlpikingpnenkaaAxOp
import Derived.Test.YtlpikingpnenkaaAxUn
set_option linter.unusedSimpArgs false
set_option linter.unusedVariables false
namespace Go.AX
open Go Go.RowKit
section
variable {P : Program} {T : Tab} {w0 : World}
theorem gs_ownH (id j : Nat) (b : Blk) {et : TypeId} {sz : Nat} {e : List AVal} {st : St} (hb : b.es = []) (hid : st.h[id]? = some (some (.gen et sz [e]))) (hj : e[j]? = some .nil) (hp : b.np = true := by rfl) :
  GS w0 st ⟨st.n, st.s, (st.h ++ [some b]).set id (some (.gen et sz [e.set j (.own st.h.length 0)]))⟩ :=
 fun F φ a w hr => ⟨F, _, FLn.refl F, hr.nilOwnH hid hj hb hp⟩
theorem Rel.truncI {F : Fz} {φ : Phi} {a : Act} {w : World} (id : Nat) (ys : List Int) {et : TypeId} {k : IntKind} {xs : List Int} {n : Nat} {st : St} (hr : Rel F φ w0 st a w) (hb : st.h[id]? = some (some (.ints et k xs))) (hys : xs.take n = ys) :
  Rel F φ w0 ⟨st.n, st.s, st.h.set id (some (.ints et k ys))⟩ a w := by
 have hil := Blk.ext_lt hb
 have cls : ∀ j b, (st.h.set id (some (.ints et k ys)))[j]? = some (some b) → (j ≠ id ∧ st.h[j]? = some (some b)) ∨ (j = id ∧ b = .ints et k ys) := fun j b hj => by
  rcases Classical.em (j = id) with rfl | q
  ·rw [List.getElem?_set_self hil] at hj; simp only [Option.some.injEq] at hj; exact .inr ⟨rfl, hj.symm⟩
  ·rw [List.getElem?_set_ne (Ne.symm q)] at hj; exact .inl ⟨q, hj⟩
 have any : ∀ j b, (st.h.set id (some (.ints et k ys)))[j]? = some (some b) → ∃ b', st.h[j]? = some (some b') := fun j b hj => by
  rcases cls j b hj with ⟨_, q⟩ | ⟨rfl, _⟩
  ·exact ⟨b, q⟩
  ·exact ⟨_, hb⟩
 refine ⟨⟨hr.heap.agree, fun i hi => hr.heap.unused i (by simpa using hi), fun i b' hi => ?_, fun i j bi bj g hi hj h1 h2 => ?_, hr.heap.good, fun j i l hj => ?_⟩, hr.size, hr.slots, hr.defers, hr.below⟩
 ·rcases cls i b' hi with ⟨_, q⟩ | ⟨rfl, rfl⟩
  ·exact hr.heap.blk i b' q
  ·have hsub : ∀ j e, (intEs k ys)[j]? = some e → (intEs k xs)[j]? = some e := fun j e he => by
    rw [← hys] at he
    simp only [intEs, List.map_take] at he
    rw [List.getElem?_take] at he
    split at he
    ·exact he
    ·cases he
   have hlen : ys.length ≤ xs.length := by rw [← hys]; simp; omega
   rcases (hr.heap.blk i _ hb).nxC rfl with ⟨p1, p2⟩ | ⟨g, cap, cur, p1, p2, p3, p4, p5, p6, p7, p8⟩
   ·refine .inl ⟨p1, ?_⟩
    simp only [Blk.es, intEs] at p2 ⊢
    have : xs = [] := List.map_eq_nil_iff.1 p2
    rw [← hys, this, List.take_nil]; rfl
   ·refine .inr (.inl ⟨g, cap, cur, p1, p2, p3, p4, ?_, p6, p7, fun j e he => p8 j e (hsub j e he)⟩)
    simp only [Blk.es, intEs, List.length_map] at p5 ⊢
    omega
 ·obtain ⟨b1, q1⟩ := any i bi hi
  obtain ⟨b2, q2⟩ := any j bj hj
  exact hr.heap.sep i j _ _ _ q1 q2 h1 h2
 ·rcases cls j _ hj with ⟨_, q⟩ | ⟨rfl, q⟩
  ·exact hr.heap.pins j i l q
  ·cases q
theorem gs_trunc (id n : Nat) {et : TypeId} {k : IntKind} {xs : List Int} {st : St} (hb : st.h[id]? = some (some (.ints et k xs))) :
  GS w0 st ⟨st.n, st.s, st.h.set id (some (.ints et k (xs.take n)))⟩ :=
 fun F φ a w hr => ⟨F, _, FLn.refl F, hr.truncI id _ hb rfl⟩
theorem AWP_stP (s' : List (Nat × AVal)) {st : St} {c : Code} {Q : Exit → St → Prop} (hs : SameS st.s s') (h : AWP P w0 c Q ⟨st.n, s', st.h⟩) : AWP P w0 c Q st :=
 fun F φ a w hr => h F φ a w (hr.sameS hs)
theorem take_len_le {α : Type} {n : Nat} {l : List α} (h : n ≤ l.length) : (l.take n).length = n := by simp; omega
end
end Go.AX
