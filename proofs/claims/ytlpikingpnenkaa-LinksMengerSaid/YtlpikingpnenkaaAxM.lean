/-
 From a function's contract to a statement's walk: what came in, as abstract values. Conditions: the arguments are what the statement's frame says of them.
-/
import Derived.Test.YtlpikingpnenkaaAxL
import Derived.Below
import Derived.RowKit3
set_option linter.unusedSimpArgs false
set_option linter.unusedVariables false
namespace Go.AX
open Go Go.RowKit
/-- All that was there, as it stood. -/
def Fw (w : World) : Fz := fun b => w.heap[b]?
theorem agreeFw (w : World) (hg : GoodF (Fw w)) : Agree (Fw w) w := ⟨fun _ _ h => h, hg⟩
theorem cellFw (w : World) (a : Addr) : cellF (Fw w) a = w.cell? a := rfl
def repsL (F : Fz) : List AVal → List Value → Prop
 | [], [] => True
 | x :: xs, v :: vs => RepV F φ0 x v ∧ repsL F xs vs
 | _, _ => False
theorem repsL_at {F : Fz} : ∀ {xs : List AVal} {vs : List Value}, repsL F xs vs → xs.length = vs.length ∧ ∀ (i : Nat) (x : AVal) (v : Value), xs[i]? = some x → vs[i]? = some v → RepV F φ0 x v
 | [], [], _ => ⟨rfl, fun i x v h => by simp at h⟩
 | x :: xs, v :: vs, h => by
  obtain ⟨h1, h2⟩ := repsL_at h.2
  refine ⟨by simp [h1], fun i y u hy hu => ?_⟩
  match i, hy, hu with
  | 0, hy, hu => simp at hy hu; subst hy hu; exact h.1
  | i + 1, hy, hu => exact h2 i y u (by simpa using hy) (by simpa using hu)
 | [], _ :: _, h => h.elim
 | _ :: _, [], h => h.elim
theorem Pure.walk {P : Program} {f : FuncId} {args : List AVal} {b : Bool} (h : Pure P f args (.bool b) []) {w : World} (hg : GoodF (Fw w)) {vs : Array Value} (hr : repsL (Fw w) args vs.toList) :
  Calls P f vs w fun e w' => e = .returned (.bool b) ∧ Below w.heap.size w w' := by
 obtain ⟨h1, h2⟩ := repsL_at hr
 refine (h w (Fw w) vs (agreeFw w hg) (by simpa using h1) (fun i x v hx hv => h2 i x v hx (by simpa using hv))).mono fun e w' hq => ?_
 obtain ⟨v, F', φ', rfl, _, _, hv, hb⟩ := hq
 cases hv
 exact ⟨rfl, hb⟩
variable {F : Fz} {φ : Phi}
theorem rep_int {k : IntKind} {n : Int} (h : (Lit.int k n).wf = true) : RepV F φ (.int k n) (.int k n) := by
 have h' : k.min ≤ n ∧ n ≤ k.max := by simpa [Lit.wf] using h
 have : lo k ≤ n ∧ n ≤ hi k := by cases k <;> exact h'
 exact .int k n this.1 this.2
theorem rep_agg2 {x y : AVal} {v u : Value} (h1 : RepV F φ x v) (h2 : RepV F φ y u) (o1 : v.oneCell' = true) (o2 : u.oneCell' = true) : RepV F φ (.agg [x, y]) (.agg #[v, u]) := by
 refine .agg _ _ rfl (fun i v hv => ?_) (fun i x v hx hv => ?_)
 ·match i, hv with
  | 0, hv => simp at hv; subst hv; exact o1
  | 1, hv => simp at hv; subst hv; exact o2
  | i + 2, hv => simp at hv
 ·match i, hx, hv with
  | 0, hx, hv => simp at hx hv; subst hx hv; exact h1
  | 1, hx, hv => simp at hx hv; subst hx hv; exact h2
  | i + 2, hx, hv => simp at hv
end Go.AX
