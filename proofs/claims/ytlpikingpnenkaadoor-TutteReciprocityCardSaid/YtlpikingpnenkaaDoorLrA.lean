/-
 STANLEY: acyclic orientations with a colouring that does not rise along them, counted by the sets of edges. Conditions: none.
-/
import Derived.Test.YtlpikingpnenkaaDoorLtA
set_option linter.unusedSimpArgs false
set_option linter.unusedVariables false
namespace Go.SH
open Go Go.AX
/-- The sign of a number. -/
def sn (n : Nat) : Int := if n % 2 = 0 then 1 else -1
theorem sn_succ (n : Nat) : sn (n + 1) = - sn n := by unfold sn; split <;> split <;> omega
section
variable (E : List (Int × Int)) (f : Nat → Int)
open Classical in
/-- How many ways to orient n edges from j on, not rising by f, so that heights are there. -/
noncomputable def Ro : Nat → Nat → ((Nat → Int) → Prop) → Int
 | 0, _, X => if ∃ h, X h then 1 else 0
 | n + 1, j, X => (if f (eV E j) ≤ f (eU E j) then Ro n (j + 1) (fun h => X h ∧ h (eU E j) < h (eV E j)) else 0) + (if f (eU E j) ≤ f (eV E j) then Ro n (j + 1) (fun h => X h ∧ h (eV E j) < h (eU E j)) else 0)
/-- What heights may do to stay heights. -/
structure OKX (s k : Nat) (X : (Nat → Int) → Prop) : Prop where
 cone : ∀ (h1 h2 : Nat → Int) (a b : Int), 0 < a → 0 < b → X h1 → X h2 → X (fun x => a * h1 x + b * h2 x)
 pert : ∀ (h g : Nat → Int), X h → (∀ x y, lab E s k x = lab E s k y → g x = g y) → (∀ x, 0 ≤ g x ∧ g x ≤ 1) → X (fun x => 2 * h x + g x)
 down : ∀ (h : Nat → Int) (M : Int), 0 ≤ M → X h → X (fun x => h x - M * f x)
end
variable {E : List (Int × Int)} {f : Nat → Int}
theorem Ro_congr {n j : Nat} {X Y : (Nat → Int) → Prop} (h : ∀ g, X g ↔ Y g) : Ro E f n j X = Ro E f n j Y := by
 have : X = Y := funext fun g => propext (h g)
 rw [this]
theorem Ro_none : ∀ {n j : Nat} {X : (Nat → Int) → Prop}, (∀ h, ¬ X h) → Ro E f n j X = 0 := by
 intro n
 induction n with
 | zero => intro j X h; simp only [Ro]; rw [if_neg (fun ⟨g, hg⟩ => h g hg)]
 | succ n ih =>
  intro j X h
  simp only [Ro]
  rw [ih fun g hg => h g hg.1, ih fun g hg => h g hg.1]
  split <;> split <;> rfl
theorem OKX.less {s k : Nat} {X : (Nat → Int) → Prop} (h : OKX E f s k X) {a b : Nat} (hf : f b ≤ f a) : OKX E f s k (fun g => X g ∧ g a < g b) where
 cone := fun h1 h2 x y hx hy ⟨p1, q1⟩ ⟨p2, q2⟩ => ⟨h.cone h1 h2 x y hx hy p1 p2, by
  have r1 := Int.mul_lt_mul_of_pos_left q1 hx
  have r2 := Int.mul_lt_mul_of_pos_left q2 hy
  show x * h1 a + y * h2 a < x * h1 b + y * h2 b
  omega⟩
 pert := fun h1 g ⟨p1, q1⟩ hg hb => ⟨h.pert h1 g p1 hg hb, by
  have b1 := hb a
  have b2 := hb b
  show 2 * h1 a + g a < 2 * h1 b + g b
  omega⟩
 down := fun h1 M hM ⟨p1, q1⟩ => ⟨h.down h1 M hM p1, by
  have := Int.mul_le_mul_of_nonneg_left hf hM
  show h1 a - M * f a < h1 b - M * f b
  omega⟩
/-- An edge between two parts: one way or the other, or both. -/
theorem Ro_open {s k u v : Nat} (hne : lab E s k u ≠ lab E s k v) : ∀ {n j : Nat} {X : (Nat → Int) → Prop}, OKX E f s k X →
  Ro E f n j (fun h => X h ∧ h u < h v) + Ro E f n j (fun h => X h ∧ h v < h u) = Ro E f n j X + Ro E f n j (fun h => X h ∧ h u = h v) := by
 intro n
 induction n with
 | zero =>
  intro j X hX
  simp only [Ro]
  have up : ∀ h, X h → h u = h v → (∃ h, X h ∧ h u < h v) ∧ ∃ h, X h ∧ h v < h u := fun h hx he => by
   refine ⟨⟨_, hX.pert h (fun x => if lab E s k x = lab E s k v then 1 else 0) hx (fun x y e => by simp only [e]) (fun x => by split <;> omega), ?_⟩, ⟨_, hX.pert h (fun x => if lab E s k x = lab E s k u then 1 else 0) hx (fun x y e => by simp only [e]) (fun x => by split <;> omega), ?_⟩⟩
   ·rw [if_neg hne, if_pos rfl]; omega
   ·rw [if_pos rfl, if_neg (fun e => hne e.symm)]; omega
  by_cases c : ∃ h, X h ∧ h u = h v
  ·obtain ⟨h, hx, he⟩ := c
   obtain ⟨q1, q2⟩ := up h hx he
   rw [if_pos q1, if_pos q2, if_pos ⟨h, hx⟩, if_pos ⟨h, hx, he⟩]
  ·rw [if_neg c]
   by_cases a : ∃ h, X h ∧ h u < h v
   ·rw [if_pos a]
    obtain ⟨h1, x1, l1⟩ := a
    rw [if_pos (show ∃ h, X h from ⟨h1, x1⟩), if_neg (show ¬ ∃ h, X h ∧ h v < h u from ?_)]
    rintro ⟨h2, x2, l2⟩
    refine c ⟨_, hX.cone h1 h2 (h2 u - h2 v) (h1 v - h1 u) (by omega) (by omega) x1 x2, ?_⟩
    show (h2 u - h2 v) * h1 u + (h1 v - h1 u) * h2 u = (h2 u - h2 v) * h1 v + (h1 v - h1 u) * h2 v
    simp only [Int.sub_mul, Int.mul_comm (h1 v), Int.mul_comm (h1 u)]
    omega
   ·rw [if_neg a]
    by_cases b : ∃ h, X h ∧ h v < h u
    ·rw [if_pos b]
     obtain ⟨h2, x2, _⟩ := b
     rw [if_pos (show ∃ h, X h from ⟨h2, x2⟩)]; rfl
    ·rw [if_neg b, if_neg (show ¬ ∃ h, X h from ?_)]
     rintro ⟨h, hx⟩
     rcases Int.lt_trichotomy (h u) (h v) with q | q | q
     ·exact a ⟨h, hx, q⟩
     ·exact c ⟨h, hx, q⟩
     ·exact b ⟨h, hx, q⟩
 | succ n ih =>
  intro j X hX
  simp only [Ro]
  have sw : ∀ (P Q : (Nat → Int) → Prop), Ro E f n (j + 1) (fun h => (X h ∧ P h) ∧ Q h) = Ro E f n (j + 1) (fun h => (X h ∧ Q h) ∧ P h) := fun P Q => Ro_congr fun g => ⟨fun ⟨⟨a, b⟩, c⟩ => ⟨⟨a, c⟩, b⟩, fun ⟨⟨a, b⟩, c⟩ => ⟨⟨a, c⟩, b⟩⟩
  rw [sw (fun h => h u < h v) (fun h => h (eU E j) < h (eV E j)), sw (fun h => h v < h u) (fun h => h (eU E j) < h (eV E j)), sw (fun h => h u < h v) (fun h => h (eV E j) < h (eU E j)), sw (fun h => h v < h u) (fun h => h (eV E j) < h (eU E j)), sw (fun h => h u = h v) (fun h => h (eU E j) < h (eV E j)), sw (fun h => h u = h v) (fun h => h (eV E j) < h (eU E j))]
  by_cases q1 : f (eV E j) ≤ f (eU E j) <;> by_cases q2 : f (eU E j) ≤ f (eV E j)
  ·have i1 := ih (j := j + 1) (hX.less (a := eU E j) (b := eV E j) q1)
   have i2 := ih (j := j + 1) (hX.less (a := eV E j) (b := eU E j) q2)
   simp only [if_pos q1, if_pos q2]; omega
  ·have i1 := ih (j := j + 1) (hX.less (a := eU E j) (b := eV E j) q1)
   simp only [if_pos q1, if_neg q2]; omega
  ·have i2 := ih (j := j + 1) (hX.less (a := eV E j) (b := eU E j) q2)
   simp only [if_neg q1, if_pos q2]; omega
  ·simp only [if_neg q1, if_neg q2]
/-- An edge on which f falls may be added. -/
theorem Ro_fall {s k u v : Nat} (hf : f v < f u) : ∀ {n j : Nat} {X : (Nat → Int) → Prop}, OKX E f s k X → Ro E f n j (fun h => X h ∧ h u < h v) = Ro E f n j X := by
 intro n
 induction n with
 | zero =>
  intro j X hX
  simp only [Ro]
  by_cases c : ∃ h, X h
  ·obtain ⟨h, hx⟩ := c
   rw [if_pos (show ∃ h, X h from ⟨h, hx⟩), if_pos (show ∃ h, X h ∧ h u < h v from ?_)]
   refine ⟨_, hX.down h ((h u - h v).natAbs + 1) (by omega) hx, ?_⟩
   have h1 : (((h u - h v).natAbs : Int) + 1) * 1 ≤ (((h u - h v).natAbs : Int) + 1) * (f u - f v) := Int.mul_le_mul_of_nonneg_left (by omega) (by omega)
   rw [Int.mul_sub] at h1
   omega
  ·rw [if_neg c, if_neg fun ⟨h, hx, _⟩ => c ⟨h, hx⟩]
 | succ n ih =>
  intro j X hX
  simp only [Ro]
  have sw : ∀ (P Q : (Nat → Int) → Prop), Ro E f n (j + 1) (fun h => (X h ∧ P h) ∧ Q h) = Ro E f n (j + 1) (fun h => (X h ∧ Q h) ∧ P h) := fun P Q => Ro_congr fun g => ⟨fun ⟨⟨a, b⟩, c⟩ => ⟨⟨a, c⟩, b⟩, fun ⟨⟨a, b⟩, c⟩ => ⟨⟨a, c⟩, b⟩⟩
  rw [sw (fun h => h u < h v) (fun h => h (eU E j) < h (eV E j)), sw (fun h => h u < h v) (fun h => h (eV E j) < h (eU E j))]
  by_cases q1 : f (eV E j) ≤ f (eU E j) <;> by_cases q2 : f (eU E j) ≤ f (eV E j)
  ·rw [ih (j := j + 1) (hX.less (a := eU E j) (b := eV E j) q1), ih (j := j + 1) (hX.less (a := eV E j) (b := eU E j) q2)]
  ·rw [ih (j := j + 1) (hX.less (a := eU E j) (b := eV E j) q1)]; simp only [if_neg q2]
  ·rw [ih (j := j + 1) (hX.less (a := eV E j) (b := eU E j) q2)]; simp only [if_neg q1]
  ·simp only [if_neg q1, if_neg q2]
/-- Equal on the edges of s. -/
def Eq1 {α : Type} (E : List (Int × Int)) (s k : Nat) (h : Nat → α) : Prop := ∀ i, i < k → s.testBit i = true → h (eU E i) = h (eV E i)
theorem Eq1.lab {α : Type} {s : Nat} {h : Nat → α} : ∀ {k : Nat}, Eq1 E s k h → ∀ x, h (lab E s k x) = h x := by
 intro k
 induction k with
 | zero => intro _ x; rfl
 | succ k ih =>
  intro hE x
  have ih' := ih fun i hi hb => hE i (by omega) hb
  simp only [Go.SH.lab]
  split
  ·rename_i c
   split
   ·rename_i e
    rw [ih', ← hE k (by omega) c.1, ← ih' (eU E k), ← e, ih']
   ·exact ih' x
  ·exact ih' x
theorem lab_eq {s : Nat} : ∀ {k i : Nat}, i < k → s.testBit i = true → lab E s k (eU E i) = lab E s k (eV E i) := by
 intro k
 induction k with
 | zero => intro i hi; omega
 | succ k ih =>
  intro i hi hb
  rcases Nat.lt_or_ge i k with c | c
  ·simp only [lab]; rw [ih c hb]
  ·have : i = k := by omega
   subst this
   by_cases e : lab E s i (eU E i) = lab E s i (eV E i)
   ·rw [lab_keep fun h => h.2 e]; exact e
   ·have a : lab E s (i + 1) (eU E i) = lab E s i (eV E i) := by simp only [lab]; rw [if_pos ⟨hb, e⟩]; simp
    have b : lab E s (i + 1) (eV E i) = lab E s i (eV E i) := by simp only [lab]; rw [if_pos ⟨hb, e⟩]; split <;> rfl
    rw [a, b]
theorem OKX_start {s k : Nat} (hf : Eq1 E s k f) : OKX E f s k (Eq1 E s k) where
 cone := fun h1 h2 a b _ _ p1 p2 i hi hb => by
  show a * h1 _ + b * h2 _ = a * h1 _ + b * h2 _
  rw [p1 i hi hb, p2 i hi hb]
 pert := fun h g p hg _ i hi hb => by
  show 2 * h _ + g _ = 2 * h _ + g _
  rw [p i hi hb, hg _ _ (lab_eq hi hb)]
 down := fun h M _ p i hi hb => by
  show h _ - M * f _ = h _ - M * f _
  rw [p i hi hb, hf i hi hb]
theorem Eq1_or {α : Type} {s k : Nat} (hs : s < 2 ^ k) {h : Nat → α} : Eq1 E (2 ^ k + s) (k + 1) h ↔ Eq1 E s k h ∧ h (eU E k) = h (eV E k) := by
 have low : ∀ i, i < k → (2 ^ k + s).testBit i = s.testBit i := fun i hi => Nat.testBit_two_pow_add_gt hi s
 have top : (2 ^ k + s).testBit k = true := by rw [Nat.testBit_two_pow_add_eq, Nat.testBit_lt_two_pow hs]; rfl
 constructor
 ·intro h1
  exact ⟨fun i hi hb => h1 i (by omega) (by rw [low i hi]; exact hb), h1 k (by omega) top⟩
 ·rintro ⟨h1, h2⟩ i hi hb
  rcases Nat.lt_or_ge i k with c | c
  ·exact h1 i c (by rw [← low i c]; exact hb)
  ·have : i = k := by omega
   subst this; exact h2
theorem Eq1_no {α : Type} {s k : Nat} (hs : s < 2 ^ k) {h : Nat → α} : Eq1 E s (k + 1) h ↔ Eq1 E s k h := by
 constructor
 ·intro h1 i hi hb; exact h1 i (by omega) hb
 ·intro h1 i hi hb
  rcases Nat.lt_or_ge i k with c | c
  ·exact h1 i c hb
  ·have : i = k := by omega
   subst this
   rw [Nat.testBit_lt_two_pow hs] at hb; cases hb
theorem lab_top {s k : Nat} (hs : s < 2 ^ k) : lab E (2 ^ k + s) k = lab E s k := lab_congr fun i hi => Nat.testBit_two_pow_add_gt hi s
/-- One edge. -/
theorem Ro_edge {s k n : Nat} (hs : s < 2 ^ k) (hf : Eq1 E s k f) : Ro E f (n + 1) k (Eq1 E s k) = Ro E f n (k + 1) (Eq1 E s (k + 1)) + (if f (eU E k) = f (eV E k) then (if lab E s k (eU E k) = lab E s k (eV E k) then -1 else 1) * Ro E f n (k + 1) (Eq1 E (2 ^ k + s) (k + 1)) else 0) := by
 have e1 : Ro E f n (k + 1) (Eq1 E s (k + 1)) = Ro E f n (k + 1) (Eq1 E s k) := Ro_congr fun g => Eq1_no hs
 have e2 : Ro E f n (k + 1) (Eq1 E (2 ^ k + s) (k + 1)) = Ro E f n (k + 1) (fun h => Eq1 E s k h ∧ h (eU E k) = h (eV E k)) := Ro_congr fun g => Eq1_or hs
 rw [e1, e2]
 have hX := OKX_start hf
 simp only [Ro]
 by_cases c : f (eU E k) = f (eV E k)
 ·rw [if_pos (by omega), if_pos (by omega), if_pos c]
  by_cases q : lab E s k (eU E k) = lab E s k (eV E k)
  ·rw [if_pos q]
   have cl : ∀ h : Nat → Int, Eq1 E s k h → h (eU E k) = h (eV E k) := fun h hh => by rw [← hh.lab (eU E k), q, hh.lab]
   rw [Ro_none (X := fun h => Eq1 E s k h ∧ h (eU E k) < h (eV E k)) fun h hh => by have := cl h hh.1; omega, Ro_none (X := fun h => Eq1 E s k h ∧ h (eV E k) < h (eU E k)) fun h hh => by have := cl h hh.1; omega, Ro_congr (X := fun h => Eq1 E s k h ∧ h (eU E k) = h (eV E k)) (Y := Eq1 E s k) fun g => ⟨fun h => h.1, fun h => ⟨h, cl g h⟩⟩]
   omega
  ·rw [if_neg q, Ro_open q hX]; omega
 ·rw [if_neg c]
  rcases Int.lt_or_gt_of_ne c with q | q
  ·rw [if_neg (by omega), if_pos (by omega), Ro_fall q hX]; omega
  ·rw [if_pos (by omega), if_neg (by omega), Ro_fall q hX]
open Classical in
/-- THE COUNT by the sets of edges on which f is the same. -/
theorem Ro_sum (m : Nat) : ∀ j, j ≤ m → Ro E f m 0 (fun _ => True) = sm (2 ^ j) fun s => if Eq1 E s j f then sn (nu E s j) * Ro E f (m - j) j (Eq1 E s j) else 0 := by
 intro j
 induction j with
 | zero =>
  intro _
  have e : Ro E f m 0 (fun _ => True) = Ro E f m 0 (Eq1 E 0 0) := Ro_congr fun g => ⟨fun _ i hi => by omega, fun _ => trivial⟩
  show _ = sm 1 _
  simp only [sm]
  rw [if_pos (show Eq1 E 0 0 f from fun i hi => by omega), e]
  simp [nu, sn]
 | succ j ih =>
  intro hj
  rw [ih (by omega)]
  have e1 : 2 ^ (j + 1) = 2 ^ j + 2 ^ j := by omega
  rw [e1, sm_plus (2 ^ j) (2 ^ j), ← sm_addf]
  refine sm_congr fun s hs => ?_
  have top : (2 ^ j + s).testBit j = true := by rw [Nat.testBit_two_pow_add_eq, Nat.testBit_lt_two_pow hs]; rfl
  have no : s.testBit j = false := Nat.testBit_lt_two_pow hs
  have n1 : nu E s (j + 1) = nu E s j := by simp only [nu]; rw [if_neg (by rw [no]; simp)]
  have n2 : nu E (2 ^ j + s) (j + 1) = if lab E s j (eU E j) = lab E s j (eV E j) then nu E s j + 1 else nu E s j := by
   simp only [nu]
   rw [lab_top hs, nu_congr (E := E) fun i hi => Nat.testBit_two_pow_add_gt hi s]
   simp only [top, true_and]
  simp only [Eq1_no hs, Eq1_or hs, n1, n2]
  by_cases c : Eq1 E s j f
  ·rw [if_pos c, if_pos c]
   have e : m - j = m - (j + 1) + 1 := by omega
   rw [e, Ro_edge hs c]
   by_cases q : f (eU E j) = f (eV E j)
   ·rw [if_pos q, if_pos (show Eq1 E s j f ∧ f (eU E j) = f (eV E j) from ⟨c, q⟩)]
    by_cases r : lab E s j (eU E j) = lab E s j (eV E j)
    ·simp only [if_pos r]
     rw [sn_succ, Int.mul_add, ← Int.mul_assoc, Int.mul_neg, Int.mul_one]
    ·simp only [if_neg r]
     rw [Int.mul_add, Int.one_mul]
   ·rw [if_neg q, if_neg fun h => q h.2]; simp
  ·rw [if_neg c, if_neg c, if_neg fun h => c h.1]; rfl
open Classical in
theorem Ro_all (m : Nat) : Ro E f m 0 (fun _ => True) = sm (2 ^ m) fun s => if Eq1 E s m f then sn (nu E s m) else 0 := by
 rw [Ro_sum m m (Nat.le_refl _)]
 refine sm_congr fun s _ => ?_
 rw [Nat.sub_self]
 simp only [Ro]
 rw [if_pos (⟨fun _ => (0 : Int), fun i _ _ => rfl⟩ : ∃ h : Nat → Int, Eq1 E s m h), Int.mul_one]
/-! ### by masks -/
theorem sm_eo (n : Nat) (g : Nat → Int) : sm (2 * n) g = sm n fun s => g (2 * s) + g (2 * s + 1) := by
 induction n with
 | zero => rfl
 | succ n ih =>
  rw [show 2 * (n + 1) = 2 * n + 1 + 1 by omega]
  simp only [sm]
  rw [ih]; omega
/-- The tail and the head of an edge, turned where the mask says so. -/
def oA (E : List (Int × Int)) (M j i : Nat) : Nat := if M.testBit i = true then eV E (j + i) else eU E (j + i)
def oB (E : List (Int × Int)) (M j i : Nat) : Nat := if M.testBit i = true then eU E (j + i) else eV E (j + i)
open Classical in
theorem Ro_masks : ∀ (n j : Nat) (X : (Nat → Int) → Prop), Ro E f n j X = sm (2 ^ n) fun M => if (∀ i, i < n → f (oB E M j i) ≤ f (oA E M j i)) ∧ ∃ h : Nat → Int, X h ∧ ∀ i, i < n → h (oA E M j i) < h (oB E M j i) then 1 else 0 := by
 intro n
 induction n with
 | zero =>
  intro j X
  simp only [Ro]
  show _ = sm 1 _
  simp only [sm, Int.zero_add]
  have e : (∃ h, X h) ↔ ((∀ i, i < 0 → f (oB E 0 j i) ≤ f (oA E 0 j i)) ∧ ∃ h : Nat → Int, X h ∧ ∀ i, i < 0 → h (oA E 0 j i) < h (oB E 0 j i)) := ⟨fun ⟨h, hx⟩ => ⟨fun i hi => by omega, h, hx, fun i hi => by omega⟩, fun ⟨_, h, hx, _⟩ => ⟨h, hx⟩⟩
  simp only [e]
 | succ n ih =>
  intro j X
  simp only [Ro]
  rw [show 2 ^ (n + 1) = 2 * 2 ^ n by omega, sm_eo, sm_addf]
  have t0 : ∀ M, (2 * M).testBit 0 = false := fun M => by simp [Nat.testBit_zero]
  have t1 : ∀ M, (2 * M + 1).testBit 0 = true := fun M => by simp [Nat.testBit_zero]
  have ts0 : ∀ M i, (2 * M).testBit (i + 1) = M.testBit i := fun M i => by rw [Nat.testBit_succ, Nat.mul_div_cancel_left _ (by omega)]
  have ts1 : ∀ M i, (2 * M + 1).testBit (i + 1) = M.testBit i := fun M i => by rw [Nat.testBit_succ]; congr 1; omega
  have a0 : ∀ M i, oA E (2 * M) j (i + 1) = oA E M (j + 1) i ∧ oB E (2 * M) j (i + 1) = oB E M (j + 1) i := fun M i => by unfold oA oB; rw [ts0, show j + (i + 1) = j + 1 + i by omega]; exact ⟨rfl, rfl⟩
  have a1 : ∀ M i, oA E (2 * M + 1) j (i + 1) = oA E M (j + 1) i ∧ oB E (2 * M + 1) j (i + 1) = oB E M (j + 1) i := fun M i => by unfold oA oB; rw [ts1, show j + (i + 1) = j + 1 + i by omega]; exact ⟨rfl, rfl⟩
  have z0 : ∀ M, oA E (2 * M) j 0 = eU E j ∧ oB E (2 * M) j 0 = eV E j := fun M => by unfold oA oB; rw [t0]; exact ⟨rfl, rfl⟩
  have z1 : ∀ M, oA E (2 * M + 1) j 0 = eV E j ∧ oB E (2 * M + 1) j 0 = eU E j := fun M => by unfold oA oB; rw [t1]; exact ⟨rfl, rfl⟩
  have al : ∀ P : Nat → Prop, (∀ i, i < n + 1 → P i) ↔ P 0 ∧ ∀ i, i < n → P (i + 1) := fun P => by
   constructor
   ·intro h; exact ⟨h 0 (by omega), fun i hi => h (i + 1) (by omega)⟩
   ·rintro ⟨h0, h1⟩ i hi
    cases i with
    | zero => exact h0
    | succ i => exact h1 i (by omega)
  congr 1
  ·by_cases q : f (eV E j) ≤ f (eU E j)
   ·rw [if_pos q, ih]
    refine sm_congr fun M _ => ?_
    have iff : ((∀ i, i < n → f (oB E M (j + 1) i) ≤ f (oA E M (j + 1) i)) ∧ ∃ h : Nat → Int, (X h ∧ h (eU E j) < h (eV E j)) ∧ ∀ i, i < n → h (oA E M (j + 1) i) < h (oB E M (j + 1) i)) ↔ ((∀ i, i < n + 1 → f (oB E (2 * M) j i) ≤ f (oA E (2 * M) j i)) ∧ ∃ h : Nat → Int, X h ∧ ∀ i, i < n + 1 → h (oA E (2 * M) j i) < h (oB E (2 * M) j i)) := by
     simp only [al, z0, a0, q, true_and, and_assoc]
    simp only [iff]
   ·rw [if_neg q]
    refine (sm_zero fun M _ => if_neg ?_).symm
    intro h
    have := h.1 0 (by omega)
    rw [(z0 M).1, (z0 M).2] at this
    exact q this
  ·by_cases q : f (eU E j) ≤ f (eV E j)
   ·rw [if_pos q, ih]
    refine sm_congr fun M _ => ?_
    have iff : ((∀ i, i < n → f (oB E M (j + 1) i) ≤ f (oA E M (j + 1) i)) ∧ ∃ h : Nat → Int, (X h ∧ h (eV E j) < h (eU E j)) ∧ ∀ i, i < n → h (oA E M (j + 1) i) < h (oB E M (j + 1) i)) ↔ ((∀ i, i < n + 1 → f (oB E (2 * M + 1) j i) ≤ f (oA E (2 * M + 1) j i)) ∧ ∃ h : Nat → Int, X h ∧ ∀ i, i < n + 1 → h (oA E (2 * M + 1) j i) < h (oB E (2 * M + 1) j i)) := by
     simp only [al, z1, a1, q, true_and, and_assoc]
    simp only [iff]
   ·rw [if_neg q]
    refine (sm_zero fun M _ => if_neg ?_).symm
    intro h
    have := h.1 0 (by omega)
    rw [(z1 M).1, (z1 M).2] at this
    exact q this
end Go.SH
