/-
 A slice of pairs of integers that came in, as the abstract executor has it. Conditions: none.
-/
import Derived.Test.YtlpikingpnenkaaAxM
import Derived.Deep.SlicePairs
import Derived.SizedLaws
set_option linter.unusedSimpArgs false
set_option linter.unusedVariables false
namespace Go.AX
open Go Go.RowKit Go.ChangeShapes Go.WideShapes
/-- What is known of a slice of pairs of integers that came in. -/
def InPairs (w : World) (a : Option Addr) (len cap : Nat) (zs : List (Int × Int)) : Prop :=
 (a = none ∧ len = 0 ∧ cap = 0 ∧ zs = []) ∨
 ∃ x, a = some x ∧ len ≤ cap ∧ cap ≤ maxLen ∧ zs.length = len ∧ ∀ i, i < len → w.cell? (x.add (i * 2)) = some (.int .i64 (zs.getD i (0, 0)).1) ∧ w.cell? (x.add (i * 2 + 1)) = some (.int .i64 (zs.getD i (0, 0)).2) ∧ (Lit.int .i64 (zs.getD i (0, 0)).1).wf = true ∧ (Lit.int .i64 (zs.getD i (0, 0)).2).wf = true
theorem rep_pairs {φ : Phi} {w : World} {a : Option Addr} {len cap : Nat} {zs : List (Int × Int)} (h : InPairs w a len cap zs) :
  RepV (Fw w) φ (.fn 2 zs.length (fun i => [.int .i64 (zs.getD i (0, 0)).1, .int .i64 (zs.getD i (0, 0)).2])) (.slice a len cap) := by
 refine .fn 2 _ _ _ ?_
 rcases h with ⟨rfl, rfl, rfl, rfl⟩ | ⟨x, rfl, h1, h2, h3, h4⟩
 ·exact .imm 2 _ none 0 0 (fun _ _ => undef) rfl (Nat.le_refl _) (Nat.zero_le _) (by simp [fnEs]) (by omega) (fun _ _ _ _ _ h => by cases h) (by simp [fnEs])
 ·have get : ∀ (i : Nat) (e : List AVal), (fnEs zs.length (fun i => [.int .i64 (zs.getD i (0, 0)).1, .int .i64 (zs.getD i (0, 0)).2]))[i]? = some e → i < len ∧ e = [.int .i64 (zs.getD i (0, 0)).1, .int .i64 (zs.getD i (0, 0)).2] := by
   intro i e he
   simp only [fnEs, List.getElem?_map] at he
   cases hq : (List.range zs.length)[i]? with
   | none => rw [hq] at he; cases he
   | some q =>
    have hi := (List.getElem?_eq_some_iff.1 hq).1
    rw [List.length_range] at hi
    rw [List.getElem?_range hi] at hq
    cases hq
    rw [List.getElem?_range hi] at he
    simp only [Option.map_some, Option.some.injEq] at he
    exact ⟨by omega, he.symm⟩
  refine .imm 2 _ (some x) len cap (fun i j => if j = 0 then .int .i64 (zs.getD i (0, 0)).1 else .int .i64 (zs.getD i (0, 0)).2) (by simp [fnEs]; omega) h1 h2 (fun i e he => by obtain ⟨_, rfl⟩ := get i e he; rfl) (fun _ => by simp) (fun ad i e j y hA he hy => ?_) (fun i e j y he hy => ?_)
  ·cases hA
   obtain ⟨q1, rfl⟩ := get i e he
   obtain ⟨c1, c2, c3, c4⟩ := h4 i q1
   match j, hy with
   | 0, hy =>
    rw [cellFw]; exact ⟨by simpa using c1, rfl⟩
   | 1, hy => rw [cellFw]; exact ⟨by simpa using c2, rfl⟩
  ·obtain ⟨q1, rfl⟩ := get i e he
   obtain ⟨c1, c2, c3, c4⟩ := h4 i q1
   match j, hy with
   | 0, hy => simp at hy; subst hy; exact rep_int c3
   | 1, hy => simp at hy; subst hy; exact rep_int c4
theorem pairs_in {H : Type} {enc : TypeId × Value → H} {P : Program} {w : World} {base : Nat} {spare : Nat → Bool} {held : Bool} {t e : TypeId} {f0 f1 : Field} {fuel : Nat} {c : Value} {d : DataW H} {ps : List MemPlace} (ht : P.underlying t = some (.slice e)) (he : P.underlying e = some (.struct #[f0, f1]))
  (ce : P.cellsOf e = 2) (o0 : f0.offset = 0) (o1 : f1.offset = 1) (c0 : P.cellsOf f0.type = 1) (c1 : P.cellsOf f1.type = 1) (i0 : P.underlying f0.type = some (.int .i64)) (i1 : P.underlying f1.type = some (.int .i64))
  (h : DataW.trod enc P w base spare held fuel t [c] = some (d, ps)) :
  ∃ a len cap zs, c = .slice a len cap ∧ InPairs w a len cap zs ∧ ((len = 0) ∨ ∃ es sp, d = .slice es sp ∧ es.length = len) := by
 rcases Go.Deep.open_slice_pairs ht he ce o0 o1 c0 c1 h with ⟨hc, hx⟩ | ⟨a, len, cap, m, n, V0, V1, D0, D1, P0, P1, hc, _, hl, hm, hmm, hx, hall⟩
 ·cases hc
  exact ⟨none, 0, 0, [], rfl, .inl ⟨rfl, rfl, rfl, rfl⟩, .inl rfl⟩
 ·cases hc
  have hlm : len ≤ m := by rw [hmm]; split <;> omega
  have each : ∀ i, i < len → ∃ q : Int × Int, V0 i = .int .i64 q.1 ∧ V1 i = .int .i64 q.2 ∧ (Lit.int .i64 q.1).wf = true ∧ (Lit.int .i64 q.2).wf = true := fun i hi => by
   obtain ⟨_, _, g0, g1⟩ := hall i (by omega)
   obtain ⟨n0, e0, _, w0⟩ := DataW.trod_int i0 g0
   obtain ⟨n1, e1, _, w1⟩ := DataW.trod_int i1 g1
   simp at e0 e1
   exact ⟨(n0, n1), e0, e1, w0, w1⟩
  obtain ⟨q, hq⟩ := Go.Deep.choose_lt each
  refine ⟨some a, len, cap, (List.range len).map q, rfl, .inr ⟨a, rfl, hl, hm, by simp, fun i hi => ?_⟩, .inr ⟨_, _, (Prod.mk.inj hx).1, by simp⟩⟩
  have e : ((List.range len).map q).getD i (0, 0) = q i := by
   rw [List.getD_eq_getElem?_getD, List.getElem?_map, List.getElem?_range hi]; rfl
  obtain ⟨k1, k2, k3, k4⟩ := hq i hi
  obtain ⟨m1, m2, _, _⟩ := hall i (by omega)
  rw [e]
  exact ⟨by rw [m1, k1], by rw [m2, k2], k3, k4⟩
end Go.AX
