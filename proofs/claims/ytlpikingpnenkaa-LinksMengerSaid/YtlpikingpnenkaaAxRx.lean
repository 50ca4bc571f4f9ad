/-
 Lists of rows of the call's own, further: made and filled row by row; cut short and taken over by Clone; handed to a function that changes them. Conditions: none.
-/
import Derived.Test.YtlpikingpnenkaaAxRw
set_option linter.unusedSimpArgs false
set_option linter.unusedVariables false
namespace Go.AX
open Go Go.RowKit
section
variable {P : Program} {w0 : World} {F : Fz} {φ : Phi}
/-- The same, said otherwise: a block with the same elements. -/
theorem gs_same (o : Nat) {b b' : Blk} {st : St} (hb : st.h[o]? = some (some b)) (hx : b.nx = true) (hp' : b'.np = true) (h1 : b'.es = b.es) (h2 : b'.sz = b.sz) (h3 : b'.et = b.et) : GS w0 st ⟨st.n, st.s, st.h.set o (some b')⟩ := by
 intro F φ a w h
 have hol := Blk.ext_lt hb
 refine ⟨F, φ, FLn.refl F, ⟨⟨h.heap.agree, fun i hi => h.heap.unused i (by simpa using hi), fun i c hc => ?_, fun i j bi bj x hi hj x1 x2 => ?_, h.heap.good, fun i i2 l hi => ?_⟩, h.size, h.slots, h.defers, h.below⟩⟩
 ·rw [List.getElem?_set] at hc
  split at hc
  ·rename_i e
   subst e
   first | (rw [if_pos hol] at hc) | skip
   simp only [Option.some.injEq] at hc
   subst hc
   rcases (h.heap.blk _ b hb).nxC hx with ⟨z1, z2⟩ | ⟨g, cap, cur, z1, z2, z3, z4, z5, z6, z7, z8⟩
   ·exact .inl ⟨z1, by rw [h1]; exact z2⟩
   ·exact .inr (.inl ⟨g, cap, cur, by rw [h2, h3]; exact z1, z2, z3, by rw [h3]; exact z4, by rw [h1]; exact z5, z6, by rw [h2]; exact z7, by rw [h1, h2]; exact z8⟩)
  ·exact h.heap.blk i c hc
 ·have old : ∀ {i : Nat} {c : Blk}, (st.h.set o (some b'))[i]? = some (some c) → ∃ c', st.h[i]? = some (some c') := fun {i c} hc => by
   rw [List.getElem?_set] at hc
   split at hc
   ·rename_i e; subst e; exact ⟨b, hb⟩
   ·exact ⟨c, hc⟩
  obtain ⟨c1, e1⟩ := old hi
  obtain ⟨c2, e2⟩ := old hj
  exact h.heap.sep i j c1 c2 x e1 e2 x1 x2
 ·rw [List.getElem?_set] at hi
  split at hi
  ·rename_i e
   subst e
   first | (rw [if_pos hol] at hi) | skip
   simp only [Option.some.injEq] at hi
   subst hi
   cases hp'
  ·exact h.heap.pins i i2 l hi
theorem fnEs_len (n : Nat) (f : Nat → List AVal) : (fnEs n f).length = n := by simp [fnEs]
theorem rowOf_gen (e : TypeId) (r a l : Nat) : rowOf (.gen e 1 [[.row r a l]]) = some (r, a, l) := rfl
theorem lenO_eta (X : List (List Int)) : (fun m => (X.getD m []).length) = lenO X := rfl
attribute [go_sem] fnEs_len rowOf_gen Nat.min_self Nat.le_refl
/-- The first so many rows are there. -/
def fP (k i : Nat) : Option Nat := if i < k then some i else none
theorem fP_app (k : Nat) : (fun m => if m = k then some k else fP k m) = fP (k + 1) := by
 funext m
 unfold fP
 by_cases e : m = k
 ·subst e; simp
 ·by_cases c : m < k
  ·simp [e, c, show m < k + 1 by omega]
  ·simp [e, c, show ¬ m < k + 1 by omega]
theorem outs0_es (rid n : Nat) (len : Nat → Nat) : fnEs n (outE rid (fP 0) len) = List.replicate n [.nil] := by
 apply List.ext_getElem (by simp [fnEs])
 intro i h1 h2
 simp [fnEs, outE, fP]
/-- A list of so many rows that are not there yet. -/
theorem gs_outs0 (o : Nat) (k : IntKind) (ret : TypeId) {e : TypeId} {n : Nat} {st : St} (hb : st.h[o]? = some (some (.gen e 1 (List.replicate n [.nil])))) :
  GS w0 st ⟨st.n, st.s, (st.h ++ [some (Blk.rows ret k [])]).set o (some (.outs e st.h.length n (fP 0) (lenO [])))⟩ := by
 intro F φ a w h
 have hol := Blk.ext_lt hb
 obtain ⟨F1, φ1, l1, r1⟩ := gs_rows0 (w0 := w0) ret k (st := st) F φ a w h
 obtain ⟨F2, φ2, l2, r2⟩ := gs_same (w0 := w0) (st := ⟨st.n, st.s, st.h ++ [some (Blk.rows ret k [])]⟩) (b := .gen e 1 (List.replicate n [.nil])) (b' := .outs e st.h.length n (fP 0) (lenO [])) o (show (st.h ++ [some (Blk.rows ret k [])])[o]? = _ by rw [List.getElem?_append_left hol]; exact hb) rfl rfl (by simp only [Blk.es]; exact outs0_es _ _ _) rfl rfl F1 φ1 a w r1
 exact ⟨F2, φ2, FLn.trans l1 l2, r2⟩
/-- One more row is there. -/
theorem gs_fill (o : Nat) {e : TypeId} {rid n i l : Nat} {X : List (List Int)} {xs : List Int} {st : St} (hb : st.h[o]? = some (some (.outs e rid n (fun m => if m = i then some X.length else fP X.length m) (fun m => if m = i then l else lenO X m)))) (hi : i = X.length) (hl : l = xs.length) :
  GS w0 st ⟨st.n, st.s, st.h.set o (some (.outs e rid n (fP (X ++ [xs]).length) (lenO (X ++ [xs]))))⟩ := by
 subst hi hl
 rw [fP_app, lenO_app] at hb
 refine gs_same o hb rfl rfl ?_ rfl rfl
 rw [List.length_append]; rfl
/-- All rows are there. -/
theorem gs_full (o : Nat) {e : TypeId} {rid n : Nat} {X : List (List Int)} {st : St} (hb : st.h[o]? = some (some (.outs e rid n (fP X.length) (lenO X)))) (hn : n = X.length) :
  GS w0 st ⟨st.n, st.s, st.h.set o (some (.outs e rid X.length idO (lenO X)))⟩ := by
 subst hn
 refine gs_same o hb rfl rfl ?_ rfl rfl
 simp only [Blk.es, fnEs]
 refine List.map_congr_left fun i hi => ?_
 have := List.mem_range.1 hi
 simp [outE, idO, fP, this]
end
theorem mkWkR {ρ : List Nat} {n : Nat} {s s' : List (Nat × AVal)} {h h' : List (Option Blk)} (hb : h.length ≤ bigId := by exact of_decide_eq_true rfl) (hnd : ρ.Nodup := by simp) (hl : ρ.length = h'.length := by rfl)
  (hs : WkS ρ s s' := by (simp only [WkS, go_sem, reduceIte, reduceCtorEq, Nat.reduceEqDiff, Nat.reduceLT, Nat.reduceLeDiff, Nat.reduceBEq, Nat.reduceAdd, Nat.reduceMul, Nat.reduceSub, Nat.reducePow, Int.reduceLE, Int.reduceLT, Int.reduceNeg, Int.reduceToNat, Int.reduceAdd, Int.reduceSub, and_true, true_and, or_false, true_or, or_true, AVal.int.injEq, AVal.bool.injEq, AVal.tup.injEq, AVal.agg.injEq, AVal.str.injEq, AVal.own.injEq, AVal.ints.injEq, List.cons.injEq, Option.some.injEq, Blk.ints.injEq, Blk.gen.injEq, lenO_app, lenO_eta]; first | done | ((repeat' apply And.intro) <;> first | rfl | trivial | omega | (simp; done) | grind)))
  (hh : WkH ρ h 0 h' := by (simp only [WkH, go_sem, reduceIte, reduceCtorEq, Nat.reduceEqDiff, Nat.reduceLT, Nat.reduceLeDiff, Nat.reduceBEq, Nat.reduceAdd, Nat.reduceMul, Nat.reduceSub, Nat.reducePow, Int.reduceLE, Int.reduceLT, Int.reduceNeg, Int.reduceToNat, Int.reduceAdd, Int.reduceSub, and_true, true_and, or_false, true_or, or_true, AVal.int.injEq, AVal.bool.injEq, AVal.tup.injEq, AVal.agg.injEq, AVal.str.injEq, AVal.own.injEq, AVal.ints.injEq, List.cons.injEq, Option.some.injEq, Blk.ints.injEq, Blk.gen.injEq, lenO_app, lenO_eta]; first | done | ((repeat' apply And.intro) <;> first | rfl | trivial | omega | (simp; done) | grind))) : Wk ρ ⟨n, s, h⟩ ⟨n, s', h'⟩ := ⟨rfl, hb, hnd, hl, hs, hh⟩
theorem endHR {ρ : List Nat} {h h' : List (Option Blk)} (hh : WkH ρ h 0 h' := by (simp only [WkH, go_sem, reduceIte, reduceCtorEq, Nat.reduceEqDiff, Nat.reduceLT, Nat.reduceLeDiff, Nat.reduceBEq, Nat.reduceAdd, Nat.reduceMul, Nat.reduceSub, Nat.reducePow, Int.reduceLE, Int.reduceLT, Int.reduceNeg, Int.reduceToNat, Int.reduceAdd, Int.reduceSub, and_true, true_and, or_false, true_or, or_true, AVal.int.injEq, AVal.bool.injEq, AVal.tup.injEq, AVal.agg.injEq, AVal.str.injEq, AVal.own.injEq, AVal.ints.injEq, List.cons.injEq, Option.some.injEq, Blk.ints.injEq, Blk.gen.injEq, lenO_app, lenO_eta]; first | done | rfl | (simp; done) | trivial)) : WkH ρ h 0 h' := hh
end Go.AX
