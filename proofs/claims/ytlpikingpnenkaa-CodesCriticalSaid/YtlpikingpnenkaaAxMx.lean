/-
  A matrix that came in, as the abstract executor has it. Conditions: none.
-/
import Derived.Test.YtlpikingpnenkaaAxM
import Derived.Deep.SlicePairs
import Derived.SizedLaws
import Derived.Deep.Matrix
set_option linter.unusedSimpArgs false
set_option linter.unusedVariables false
namespace Go.AX
open Go Go.RowKit Go.ChangeShapes Go.WideShapes

/-- What is known of a slice of rows of integers that came in. -/
def InRows (w : World) (a : Option Addr) (len cap : Nat) (zs : List (List Int)) : Prop :=
  (a = none ∧ len = 0 ∧ cap = 0 ∧ zs = []) ∨
  ∃ (x : Addr) (A : Nat → Option Addr) (L C : Nat → Nat) (Z : Nat → List Int), a = some x ∧ len ≤ cap ∧ cap ≤ maxLen ∧ zs = (List.range len).map (fun r => (Z r).take (L r)) ∧ ∀ r, r < len → w.cell? (x.add r) = some (.slice (A r) (L r) (C r)) ∧ InRow .i64 w (A r) (L r) (C r) (Z r)
theorem rep_rows {φ : Phi} {w : World} {a : Option Addr} {len cap : Nat} {zs : List (List Int)} (h : InRows w a len cap zs) :
    RepV (Fw w) φ (.fn 1 zs.length (fun i => [.ints .i64 (zs.getD i [])])) (.slice a len cap) := by
  refine .fn 1 _ _ _ ?_
  rcases h with ⟨rfl, rfl, rfl, rfl⟩ | ⟨x, A, L, C, Z, rfl, h1, h2, h3, h4⟩
  · exact .imm 1 _ none 0 0 (fun _ _ => undef) rfl (Nat.le_refl _) (Nat.zero_le _) (by simp [fnEs]) (by omega) (fun _ _ _ _ _ h => by cases h) (by simp [fnEs])
  · have hlen : zs.length = len := by rw [h3]; simp
    have get : ∀ (i : Nat) (e : List AVal), (fnEs zs.length (fun i => [.ints .i64 (zs.getD i [])]))[i]? = some e → i < len ∧ e = [.ints .i64 ((Z i).take (L i))] := by
      intro i e he
      simp only [fnEs, List.getElem?_map] at he
      cases hq : (List.range zs.length)[i]? with
      | none => rw [hq] at he; cases he
      | some q =>
        have hi := (List.getElem?_eq_some_iff.1 hq).1
        rw [List.length_range] at hi
        rw [List.getElem?_range hi] at hq
        cases hq
        rw [List.getElem?_range hi] at he
        simp only [Option.map_some, Option.some.injEq] at he
        have hi' : i < len := by omega
        have e2 : zs.getD i [] = (Z i).take (L i) := by
          rw [h3, List.getD_eq_getElem?_getD, List.getElem?_map, List.getElem?_range hi']; rfl
        rw [e2] at he
        exact ⟨hi', he.symm⟩
    refine .imm 1 _ (some x) len cap (fun i _ => .slice (A i) (L i) (C i)) (by simp [fnEs]; omega) h1 h2 (fun i e he => by obtain ⟨_, rfl⟩ := get i e he; rfl) (fun _ => by simp) (fun ad i e j y hA he hy => ?_) (fun i e j y he hy => ?_)
    · cases hA
      obtain ⟨q1, rfl⟩ := get i e he
      match j, hy with
      | 0, hy => rw [cellFw]; exact ⟨by simpa using (h4 i q1).1, rfl⟩
    · obtain ⟨q1, rfl⟩ := get i e he
      match j, hy with
      | 0, hy => simp at hy; subst hy; exact rep_ints (h4 i q1).2

theorem rows_in {H : Type} {enc : TypeId × Value → H} {P : Program} {w : World} {base : Nat} {held : Bool} {t e q : TypeId} {fuel : Nat} {c : Value} {x : DataW H × List MemPlace} (ht : P.underlying t = some (.slice e)) (he : P.underlying e = some (.slice q)) (hq : P.underlying q = some (.int .i64))
    (ce : P.cellsOf e = 1) (cq : P.cellsOf q = 1) (h : DataW.trod enc P w base (fun _ => true) held fuel t [c] = some x) :
    ∃ a len cap zs, c = .slice a len cap ∧ InRows w a len cap zs := by
  rcases Go.Deep.open_int_rows ht he hq ce cq h with ⟨hc, _⟩ | ⟨a, len, cap, A, L, C, Z, hc, _, hl, hm, _, hall⟩
  · cases hc
    exact ⟨none, 0, 0, [], rfl, .inl ⟨rfl, rfl, rfl, rfl⟩⟩
  · cases hc
    refine ⟨some a, len, cap, _, rfl, .inr ⟨a, A, L, C, Z, rfl, hl, hm, rfl, fun r hr => ?_⟩⟩
    obtain ⟨k1, k2, k3, k4, k5, k6, k7⟩ := hall r (by omega)
    refine ⟨k1, ?_⟩
    cases hA : A r with
    | none =>
      have hC := k6 hA
      exact .inl ⟨rfl, by omega, hC, List.eq_nil_of_length_eq_zero (by omega)⟩
    | some a' => exact .inr ⟨a', rfl, k2, k3, k4, fun i hi => (k7 a' hA).2 i (by omega), k5⟩
theorem rep_agg3 {F : Fz} {φ : Phi} {x y z : AVal} {v u t : Value} (h1 : RepV F φ x v) (h2 : RepV F φ y u) (h3 : RepV F φ z t) (o1 : v.oneCell' = true) (o2 : u.oneCell' = true) (o3 : t.oneCell' = true) : RepV F φ (.agg [x, y, z]) (.agg #[v, u, t]) := by
  refine .agg _ _ rfl (fun i v hv => ?_) (fun i x v hx hv => ?_)
  · match i, hv with
    | 0, hv => simp at hv; subst hv; exact o1
    | 1, hv => simp at hv; subst hv; exact o2
    | 2, hv => simp at hv; subst hv; exact o3
    | i + 3, hv => simp at hv
  · match i, hx, hv with
    | 0, hx, hv => simp at hx hv; subst hx hv; exact h1
    | 1, hx, hv => simp at hx hv; subst hx hv; exact h2
    | 2, hx, hv => simp at hx hv; subst hx hv; exact h3
    | i + 3, hx, hv => simp at hv
end Go.AX
