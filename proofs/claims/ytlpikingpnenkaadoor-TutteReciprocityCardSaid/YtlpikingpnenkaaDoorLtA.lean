/-
 Flows modulo q on a graph given by its list of edges: how many of them there are on a set of edges, and how many nowhere zero (inclusion and exclusion). Conditions: none.
-/
import Derived.Test.YtlpikingpnenkaaDoorHK
set_option linter.unusedSimpArgs false
set_option linter.unusedVariables false
namespace Go.SH
open Go Go.AX
/-- A sum over the numbers below n. -/
def sm : Nat → (Nat → Int) → Int
 | 0, _ => 0
 | n + 1, f => sm n f + f n
theorem sm_congr {n : Nat} {f g : Nat → Int} (h : ∀ i, i < n → f i = g i) : sm n f = sm n g := by
 induction n with
 | zero => rfl
 | succ n ih => simp only [sm]; rw [ih fun i hi => h i (by omega), h n (by omega)]
theorem sm_zero {n : Nat} {f : Nat → Int} (h : ∀ i, i < n → f i = 0) : sm n f = 0 := by
 induction n with
 | zero => rfl
 | succ n ih => simp only [sm]; rw [ih fun i hi => h i (by omega), h n (by omega)]; rfl
theorem sm_const (n : Nat) (c : Int) : sm n (fun _ => c) = n * c := by
 induction n with
 | zero => simp [sm]
 | succ n ih => simp only [sm]; rw [ih]; push_cast; rw [Int.add_mul, Int.one_mul]
theorem sm_addf (n : Nat) (f g : Nat → Int) : sm n (fun i => f i + g i) = sm n f + sm n g := by
 induction n with
 | zero => rfl
 | succ n ih => simp only [sm]; rw [ih]; omega
theorem sm_mulf (n : Nat) (c : Int) (f : Nat → Int) : sm n (fun i => c * f i) = c * sm n f := by
 induction n with
 | zero => simp [sm]
 | succ n ih => simp only [sm]; rw [ih, Int.mul_add]
theorem sm_le {n : Nat} {f g : Nat → Int} (h : ∀ i, i < n → f i ≤ g i) : sm n f ≤ sm n g := by
 induction n with
 | zero => exact Int.le_refl _
 | succ n ih => simp only [sm]; have := ih fun i hi => h i (by omega); have := h n (by omega); omega
theorem sm_front (n : Nat) (f : Nat → Int) : sm (n + 1) f = f 0 + sm n fun i => f (i + 1) := by
 induction n with
 | zero => simp [sm]
 | succ n ih => rw [sm, ih]; simp only [sm]; omega
theorem sm_plus (m n : Nat) (f : Nat → Int) : sm (m + n) f = sm m f + sm n fun i => f (m + i) := by
 induction n with
 | zero => simp [sm]
 | succ n ih => rw [← Nat.add_assoc, sm, ih]; simp only [sm]; omega
theorem sm_mulr (p n : Nat) (f : Nat → Int) : sm (p * n) f = sm p fun a => sm n fun c => f (a * n + c) := by
 induction p with
 | zero => simp [sm]
 | succ p ih => rw [Nat.succ_mul, sm_plus, ih]; rfl
theorem sm_swap (m n : Nat) (f : Nat → Nat → Int) : sm m (fun i => sm n (f i)) = sm n fun j => sm m fun i => f i j := by
 induction m with
 | zero => exact (sm_zero fun _ _ => rfl).symm
 | succ m ih => simp only [sm]; rw [ih, ← sm_addf]
theorem sm_single {n u : Nat} (h : u < n) (c : Int) : sm n (fun i => if i = u then c else 0) = c := by
 induction n with
 | zero => omega
 | succ n ih =>
  simp only [sm]
  by_cases e : u = n
  ·subst e
   rw [sm_zero fun i hi => if_neg (by omega), if_pos rfl]; omega
  ·rw [ih (by omega), if_neg (by omega)]; omega
/-- The ends of an edge. -/
def eU (E : List (Int × Int)) (k : Nat) : Nat := (E.getD k (0, 0)).1.toNat
def eV (E : List (Int × Int)) (k : Nat) : Nat := (E.getD k (0, 0)).2.toNat
/-- The part where x lies, of the first k edges those in s taken. -/
def lab (E : List (Int × Int)) (s : Nat) : Nat → Nat → Nat
 | 0, x => x
 | k + 1, x => if s.testBit k = true ∧ lab E s k (eU E k) ≠ lab E s k (eV E k) then (if lab E s k x = lab E s k (eU E k) then lab E s k (eV E k) else lab E s k x) else lab E s k x
/-- How many circuits: edges within a part. -/
def nu (E : List (Int × Int)) (s : Nat) : Nat → Nat
 | 0 => 0
 | k + 1 => if s.testBit k = true ∧ lab E s k (eU E k) = lab E s k (eV E k) then nu E s k + 1 else nu E s k
section
variable (N q : Nat) (E : List (Int × Int))
end
variable {N q : Nat} {E : List (Int × Int)}
theorem lab_congr {s s' : Nat} : ∀ {k : Nat}, (∀ i, i < k → s.testBit i = s'.testBit i) → lab E s k = lab E s' k := by
 intro k
 induction k with
 | zero => intro _; rfl
 | succ k ih => intro h; funext x; simp only [lab]; rw [ih fun i hi => h i (by omega), h k (by omega)]
theorem nu_congr {s s' : Nat} : ∀ {k : Nat}, (∀ i, i < k → s.testBit i = s'.testBit i) → nu E s k = nu E s' k := by
 intro k
 induction k with
 | zero => intro _; rfl
 | succ k ih => intro h; simp only [nu]; rw [ih fun i hi => h i (by omega), h k (by omega), lab_congr fun i hi => h i (by omega)]
/-- The ends of the first k edges are vertices. -/
def Ends (N : Nat) (E : List (Int × Int)) (k : Nat) : Prop := ∀ i, i < k → eU E i < N ∧ eV E i < N
theorem lab_keep {s k : Nat} (h : ¬ (s.testBit k = true ∧ lab E s k (eU E k) ≠ lab E s k (eV E k))) : lab E s (k + 1) = lab E s k := by
 funext x; simp only [lab]; rw [if_neg h]
theorem bit_full {i k : Nat} (h : i < k) : (2 ^ k - 1).testBit i = true := by rw [Nat.testBit_two_pow_sub_one]; exact decide_eq_true h
end Go.SH
