/-
 From a function's contract to a statement's walk: what came in, as abstract values. Conditions: the arguments are what the statement's frame says of them.
-/
import Derived.Test.YtlpikingpnenkaaAxL
import Derived.Below
import Derived.RowKit3
set_option linter.unusedSimpArgs false
set_option linter.unusedVariables false
namespace Go.AX
open Go Go.RowKit
/-- All that was there, as it stood. -/
def Fw (w : World) : Fz := fun b => w.heap[b]?
theorem agreeFw (w : World) (hg : GoodF (Fw w)) : Agree (Fw w) w := ⟨fun _ _ h => h, hg⟩
theorem cellFw (w : World) (a : Addr) : cellF (Fw w) a = w.cell? a := rfl
def repsL (F : Fz) : List AVal → List Value → Prop
 | [], [] => True
 | x :: xs, v :: vs => RepV F φ0 x v ∧ repsL F xs vs
 | _, _ => False
theorem repsL_at {F : Fz} : ∀ {xs : List AVal} {vs : List Value}, repsL F xs vs → xs.length = vs.length ∧ ∀ (i : Nat) (x : AVal) (v : Value), xs[i]? = some x → vs[i]? = some v → RepV F φ0 x v
 | [], [], _ => ⟨rfl, fun i x v h => by simp at h⟩
 | x :: xs, v :: vs, h => by
  obtain ⟨h1, h2⟩ := repsL_at h.2
  refine ⟨by simp [h1], fun i y u hy hu => ?_⟩
  match i, hy, hu with
  | 0, hy, hu => simp at hy hu; subst hy hu; exact h.1
  | i + 1, hy, hu => exact h2 i y u (by simpa using hy) (by simpa using hu)
 | [], _ :: _, h => h.elim
 | _ :: _, [], h => h.elim
theorem Pure.walk {P : Program} {f : FuncId} {args : List AVal} {b : Bool} (h : Pure P f args (.bool b) []) {w : World} (hg : GoodF (Fw w)) {vs : Array Value} (hr : repsL (Fw w) args vs.toList) :
  Calls P f vs w fun e w' => e = .returned (.bool b) ∧ Below w.heap.size w w' := by
 obtain ⟨h1, h2⟩ := repsL_at hr
 refine (h w (Fw w) vs (agreeFw w hg) (by simpa using h1) (fun i x v hx hv => h2 i x v hx (by simpa using hv))).mono fun e w' hq => ?_
 obtain ⟨v, F', φ', rfl, _, _, hv, hb⟩ := hq
 cases hv
 exact ⟨rfl, hb⟩
variable {F : Fz} {φ : Phi}
theorem rep_int {k : IntKind} {n : Int} (h : (Lit.int k n).wf = true) : RepV F φ (.int k n) (.int k n) := by
 have h' : k.min ≤ n ∧ n ≤ k.max := by simpa [Lit.wf] using h
 have : lo k ≤ n ∧ n ≤ hi k := by cases k <;> exact h'
 exact .int k n this.1 this.2
theorem rep_agg2 {x y : AVal} {v u : Value} (h1 : RepV F φ x v) (h2 : RepV F φ y u) (o1 : v.oneCell' = true) (o2 : u.oneCell' = true) : RepV F φ (.agg [x, y]) (.agg #[v, u]) := by
 refine .agg _ _ rfl (fun i v hv => ?_) (fun i x v hx hv => ?_)
 ·match i, hv with
  | 0, hv => simp at hv; subst hv; exact o1
  | 1, hv => simp at hv; subst hv; exact o2
  | i + 2, hv => simp at hv
 ·match i, hx, hv with
  | 0, hx, hv => simp at hx hv; subst hx hv; exact h1
  | 1, hx, hv => simp at hx hv; subst hx hv; exact h2
  | i + 2, hx, hv => simp at hv
/-- What is known of a slice of integers that came in. -/
def InRow (k : IntKind) (w : World) (a : Option Addr) (len cap : Nat) (zs : List Int) : Prop :=
 (a = none ∧ len = 0 ∧ cap = 0 ∧ zs = []) ∨
 ∃ x, a = some x ∧ len ≤ cap ∧ cap ≤ maxLen ∧ zs.length = cap ∧ (∀ i, i < zs.length → w.cell? (x.add i) = some (.int k (zs.getD i 0))) ∧ ∀ n ∈ zs, (Lit.int k n).wf = true
theorem rep_ints {k : IntKind} {w : World} {a : Option Addr} {len cap : Nat} {zs : List Int} (h : InRow k w a len cap zs) : RepV (Fw w) φ (.ints k (zs.take len)) (.slice a len cap) := by
 refine .ints k _ _ ?_
 rcases h with ⟨rfl, rfl, rfl, rfl⟩ | ⟨x, rfl, h1, h2, h3, h4, h5⟩
 ·exact .imm 1 _ none 0 0 (fun _ _ => undef) rfl (Nat.le_refl _) (Nat.zero_le _) (by simp [intEs]) (by omega) (fun _ _ _ _ _ h => by cases h) (by simp [intEs])
 ·have get : ∀ (i : Nat) (e : List AVal), (intEs k (zs.take len))[i]? = some e → i < len ∧ i < zs.length ∧ e = [.int k (zs.getD i 0)] := by
   intro i e he
   simp only [intEs, List.getElem?_map] at he
   cases hq : (zs.take len)[i]? with
   | none => rw [hq] at he; cases he
   | some q =>
    rw [hq] at he; simp at he
    rw [List.getElem?_take] at hq
    split at hq
    ·rename_i hi
     have hz : i < zs.length := by
      rcases Nat.lt_or_ge i zs.length with c | c
      ·exact c
      ·rw [List.getElem?_eq_none c] at hq; cases hq
     refine ⟨hi, hz, ?_⟩
     rw [← he, List.getD_eq_getElem?_getD, hq]; rfl
    ·cases hq
  refine .imm 1 _ (some x) len cap (fun i _ => .int k (zs.getD i 0)) (by simp [intEs]; omega) h1 h2 (fun i e he => by obtain ⟨_, _, rfl⟩ := get i e he; rfl) (fun _ => by simp) (fun ad i e j y hA he hy => ?_) (fun i e j y he hy => ?_)
  ·cases hA
   obtain ⟨q1, q2, rfl⟩ := get i e he
   have hj : j = 0 := by
    rcases Nat.eq_zero_or_pos j with c | c
    ·exact c
    ·rw [List.getElem?_eq_none (by simp; omega)] at hy; cases hy
   subst hj
   rw [cellFw]
   exact ⟨by simpa using h4 i q2, rfl⟩
  ·obtain ⟨q1, q2, rfl⟩ := get i e he
   have hj : j = 0 := by
    rcases Nat.eq_zero_or_pos j with c | c
    ·exact c
    ·rw [List.getElem?_eq_none (by simp; omega)] at hy; cases hy
   subst hj
   simp at hy; subst hy
   refine rep_int (h5 _ ?_)
   rw [List.getElem?_eq_getElem q2]
   exact List.getElem_mem q2
end Go.AX
