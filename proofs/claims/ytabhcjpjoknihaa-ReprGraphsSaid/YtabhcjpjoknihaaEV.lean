/-
  Plain functions that may have no answer, computed: each loop with a bound, values made out at once; and what is computed so is the answer. Conditions: none.
-/
import Derived.Test.YtabhcjpjoknihaaAxN
set_option linter.unusedSimpArgs false
set_option linter.unusedVariables false
namespace Go.SH
open Go Go.AX

/-- Values that can be made out. -/
class Force (α : Type) where
  force : {β : Type} → α → (α → β) → β
  eq : ∀ {β : Type} (a : α) (k : α → β), force a k = k a
def forceNat {β : Type} (a : Nat) (k : Nat → β) : β := match a with
  | 0 => k 0
  | n + 1 => k (n + 1)
theorem forceNat_eq {β : Type} (a : Nat) (k : Nat → β) : forceNat a k = k a := by cases a <;> rfl
instance : Force Nat := ⟨forceNat, forceNat_eq⟩
instance : Force Int := ⟨fun a k => match a with
  | .ofNat n => forceNat n fun n => k (.ofNat n)
  | .negSucc n => forceNat n fun n => k (.negSucc n), fun a k => by cases a <;> simp only [forceNat_eq]⟩
instance : Force Bool := ⟨fun a k => match a with
  | true => k true
  | false => k false, fun a k => by cases a <;> rfl⟩
instance : Force Unit := ⟨fun a k => k a, fun a k => rfl⟩
instance : Force UInt8 := ⟨fun a k => k a, fun a k => rfl⟩
instance {α β : Type} [Force α] [Force β] : Force (α × β) := ⟨fun a k => match a with
  | (x, y) => Force.force x fun x => Force.force y fun y => k (x, y), fun a k => by obtain ⟨x, y⟩ := a; simp only [Force.eq]⟩
instance {α β : Type} [Force α] [Force β] : Force (α ⊕ β) := ⟨fun a k => match a with
  | .inl x => Force.force x fun x => k (.inl x)
  | .inr y => Force.force y fun y => k (.inr y), fun a k => by cases a <;> simp only [Force.eq]⟩
def forceList {α : Type} [Force α] {β : Type} : List α → (List α → β) → β
  | [], k => k []
  | a :: l, k => Force.force a fun a => forceList l fun l => k (a :: l)
theorem forceList_eq {α : Type} [Force α] {β : Type} : ∀ (l : List α) (k : List α → β), forceList l k = k l
  | [], k => rfl
  | a :: l, k => by simp only [forceList, Force.eq, forceList_eq l]
instance {α : Type} [Force α] : Force (List α) := ⟨forceList, forceList_eq⟩

section
variable {σ ρ α β κ : Type}
def loopNF [Force σ] (f : σ → Option (σ ⊕ ρ)) : Nat → σ → Option ρ
  | 0, _ => none
  | n + 1, s => match f s with
    | none => none
    | some (.inl s') => Force.force s' fun s' => loopNF f n s'
    | some (.inr r) => some r
def loopE [Force σ] (f : σ → Option (σ ⊕ ρ)) (s : σ) : Option ρ := Force.force s fun s => loopNF f 1000000 s
def _root_.Option.bindE [Force α] (x : Option α) (f : α → Option β) : Option β := match x with
  | none => none
  | some a => Force.force a f

/-- Where the one has an answer, the other has it. -/
def Le (x y : Option α) : Prop := ∀ r, x = some r → y = some r
theorem le_rfl (x : Option α) : Le x x := fun _ h => h
theorem le_bind [Force α] {x y : Option α} {f g : α → Option β} (h : Le x y) (k : ∀ a, Le (f a) (g a)) : Le (x.bindE f) (y.bind g) := fun r hr => by
  unfold Option.bindE at hr
  cases x with
  | none => cases hr
  | some a => simp only [Force.eq] at hr; rw [h a rfl]; exact k a r hr
theorem le_chk {c : Prop} [Decidable c] {x y : Option α} (h : Le x y) : Le (chk c x) (chk c y) := fun r hr => by
  obtain ⟨h1, h2⟩ := chk_some hr; rw [chk_pos h1]; exact h r h2
theorem le_ite {c : Prop} [Decidable c] {x y x' y' : Option α} (h : Le x y) (h' : Le x' y') : Le (if c then x else x') (if c then y else y') := fun r hr => by
  by_cases hc : c
  · rw [if_pos hc] at hr ⊢; exact h r hr
  · rw [if_neg hc] at hr ⊢; exact h' r hr
theorem le_join {y y' : κ → Option α} {x x' : (κ → Option α) → Option α} (hy : ∀ v, Le (y v) (y' v)) (hx : ∀ j j' : κ → Option α, (∀ v, Le (j v) (j' v)) → Le (x j) (x' j')) : Le (joinM y x) (joinM y' x') := hx y y' hy
theorem loopNF_N [Force σ] {f g : σ → Option (σ ⊕ ρ)} (h : ∀ s, Le (f s) (g s)) : ∀ (n : Nat) (s : σ), Le (loopNF f n s) (loopN g n s)
  | 0, s => fun r hr => by simp [loopNF] at hr
  | n + 1, s => fun r hr => by
    simp only [loopNF, Force.eq] at hr
    simp only [loopN]
    cases hf : f s with
    | none => rw [hf] at hr; cases hr
    | some v =>
      rw [hf] at hr; rw [h s v hf]
      cases v with
      | inl s' => exact loopNF_N h n s' r hr
      | inr r' => exact hr
theorem le_loop [Force σ] {f g : σ → Option (σ ⊕ ρ)} {s : σ} (h : ∀ s, Le (f s) (g s)) : Le (loopE f s) (loopM g s) := fun r hr => by
  unfold loopE at hr; rw [Force.eq] at hr
  exact loopM_of (loopNF_N h _ s r hr)
end
end Go.SH
