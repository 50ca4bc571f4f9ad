/-
  A short list of the call's own, put in order by a comparison that is handed in: the plain function, a permutation, in order. Conditions: none.
-/
import Derived.Test.YtabhcjpjoknihaaAxN
import Derived.Sort.LotA
set_option linter.unusedSimpArgs false
set_option linter.unusedVariables false
namespace Go.AX
open Go Go.RowKit

def clampL (xs : List Int) (x : Int) : Int := if x ∈ xs then x else xs.headD 0
theorem clampL_mem {xs : List Int} (h : xs ≠ []) (x : Int) : clampL xs x ∈ xs := by
  unfold clampL
  split
  · assumption
  · cases xs with
    | nil => exact absurd rfl h
    | cons y ys => simp
theorem clampL_of {xs : List Int} {x : Int} (h : x ∈ xs) : clampL xs x = x := if_pos h
/-- The comparison, on the list's own. -/
def cfL (f : Int → Int → Option Int) (xs : List Int) (x y : Int) : Int := (f (clampL xs x) (clampL xs y)).getD 0
/-- It answers at all that are there, and is an order. -/
structure OrdL (f : Int → Int → Option Int) (xs : List Int) : Prop where
  tot : ∀ x, x ∈ xs → ∀ y, y ∈ xs → ∃ r, f x y = some r
  swo : xs ≠ [] → Go.Sort.SWO fun x y => decide (cfL f xs x y < 0)
noncomputable instance (f : Int → Int → Option Int) (xs : List Int) : Decidable (OrdL f xs) := Classical.propDecidable _
/-- In order, by insertion. -/
def stabL (f : Int → Int → Option Int) (xs : List Int) : List Int := (Go.Sort.insertionSort (fun x y => decide (cfL f xs x y < 0)) xs.toArray 0 xs.length).toList

theorem stabL_nil (f : Int → Int → Option Int) : stabL f [] = [] := by
  unfold stabL Go.Sort.insertionSort
  rw [Go.Sort.insOuter, if_neg (by simp)]
theorem OrdL.perm {f : Int → Int → Option Int} {xs : List Int} (h : OrdL f xs) : List.Perm (stabL f xs) xs := by
  rcases Classical.em (xs = []) with rfl | hne
  · rw [stabL_nil]
  obtain ⟨h1, h2, h3⟩ := (Go.Sort.insertionSort_holds (h.swo hne) xs.toArray 0 xs.length (Nat.zero_le _) (by simp)).1
  have e1 : ((Go.Sort.insertionSort (fun x y => decide (cfL f xs x y < 0)) xs.toArray 0 xs.length).extract 0 xs.length) = Go.Sort.insertionSort (fun x y => decide (cfL f xs x y < 0)) xs.toArray 0 xs.length := by
    rw [Array.extract_eq_self_iff]
    right
    simp at h1
    omega
  have e2 : xs.toArray.extract 0 xs.length = xs.toArray := by simp
  rw [e1, e2] at h3
  exact h3
theorem OrdL.len {f : Int → Int → Option Int} {xs : List Int} (h : OrdL f xs) : (stabL f xs).length = xs.length := h.perm.length_eq
theorem OrdL.sorted {f : Int → Int → Option Int} {xs : List Int} (h : OrdL f xs) {i j : Nat} (hij : i < j) (hj : j < xs.length) : ¬ (f ((stabL f xs).getD j 0) ((stabL f xs).getD i 0)).getD 0 < 0 := by
  have hs := (Go.Sort.insertionSort_holds (h.swo (fun e => by subst e; simp at hj)) xs.toArray 0 xs.length (Nat.zero_le _) (by simp)).2 i j (Nat.zero_le _) hij hj
  have hl := h.len
  have get : ∀ k, k < xs.length → (Go.Sort.insertionSort (fun x y => decide (cfL f xs x y < 0)) xs.toArray 0 xs.length)[k]! = (stabL f xs).getD k 0 := fun k hk => by
    have hk' : k < (Go.Sort.insertionSort (fun x y => decide (cfL f xs x y < 0)) xs.toArray 0 xs.length).size := by
      unfold stabL at hl; simp at hl; omega
    rw [getElem!_pos _ k hk', List.getD_eq_getElem?_getD, List.getElem?_eq_getElem (by omega)]
    rfl
  rw [get j hj, get i (by omega)] at hs
  have mem : ∀ k, k < xs.length → (stabL f xs).getD k 0 ∈ xs := fun k hk => by
    rw [← h.perm.mem_iff, List.getD_eq_getElem?_getD, List.getElem?_eq_getElem (by omega)]
    exact List.getElem_mem _
  unfold cfL at hs
  dsimp only at hs
  rw [clampL_of (mem j hj), clampL_of (mem i (by omega))] at hs
  simpa using hs
/-- Where the comparison is by a key. -/
theorem OrdL.of_key {f : Int → Int → Option Int} {xs : List Int} (key : Int → Int) (h : ∀ x, x ∈ xs → ∀ y, y ∈ xs → ∃ r, f x y = some r ∧ (r < 0 ↔ key x < key y)) : OrdL f xs := by
  refine ⟨fun x hx y hy => let ⟨r, h1, _⟩ := h x hx y hy; ⟨r, h1⟩, fun hne => ?_⟩
  have e : ∀ x y, decide (cfL f xs x y < 0) = decide (key (clampL xs x) < key (clampL xs y)) := fun x y => by
      obtain ⟨r, h1, h2⟩ := h _ (clampL_mem hne x) _ (clampL_mem hne y)
      unfold cfL
      rw [h1]
      exact decide_eq_decide.2 h2
  exact ⟨fun x => by rw [e]; simp, fun x y z h1 h2 => by rw [e] at *; simp at *; omega, fun x y z h1 h2 => by rw [e] at *; simp at *; omega⟩
end Go.AX
