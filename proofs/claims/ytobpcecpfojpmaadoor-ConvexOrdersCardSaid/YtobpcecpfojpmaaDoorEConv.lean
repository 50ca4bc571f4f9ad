/-
  Plain functions of the program, computed. By a program of mine (ev.py). Conditions: none.
-/
import Derived.Test.YtobpcecpfojpmaaDoorEV
import Derived.Test.YtobpcecpfojpmaaDoorSpcmp
import Derived.Test.YtobpcecpfojpmaaDoorSpslices
import Derived.Test.YtobpcecpfojpmaaDoorSpbits
import Derived.Test.YtobpcecpfojpmaaDoorSpsets
import Derived.Test.YtobpcecpfojpmaaDoorSprotaref
import Derived.Test.YtobpcecpfojpmaaDoorSpconvex
import Derived.Test.YtobpcecpfojpmaaDoorSkConvexLines
set_option linter.unusedVariables false
set_option linter.unusedSimpArgs false
namespace Go.SH
open Go Go.AX

def cmp_isNaN_int_E (x : Int) : Option (Bool) :=
  some (decide (x ≠ x))

theorem E_cmp_isNaN_int (x : Int) : Le (cmp_isNaN_int_E x) (cmp_isNaN_int x) := by
  unfold cmp_isNaN_int_E cmp_isNaN_int
  repeat' (first
    | assumption
    | with_reducible exact le_rfl _
    | exact le_rfl _
    | apply le_bind
    | apply le_chk
    | apply le_ite
    | apply le_join
    | apply le_loop
    | dsimp only
    | (intro (x : _ × _); obtain ⟨_, _⟩ := x)
    | (intro (x : _ ⊕ _); cases x)
    | intro _
    | split)

def cmp_Less_int_E (x : Int) (y : Int) : Option (Bool) :=
  (cmp_isNaN_int_E x).bindE fun y1 =>
  (if y1 = true then cmp_isNaN_int_E y else some false).bindE fun y2 =>
  some (decide (((y1 = true ∧ ¬ (y2 = true)) ∨ x < y)))

theorem E_cmp_Less_int (x : Int) (y : Int) : Le (cmp_Less_int_E x y) (cmp_Less_int x y) := by
  unfold cmp_Less_int_E cmp_Less_int
  repeat' (first
    | assumption
    | with_reducible exact le_rfl _
    | exact E_cmp_isNaN_int ..
    | apply le_bind
    | apply le_chk
    | apply le_ite
    | apply le_join
    | apply le_loop
    | dsimp only
    | (intro (x : _ × _); obtain ⟨_, _⟩ := x)
    | (intro (x : _ ⊕ _); cases x)
    | intro _
    | split)

def slices_isNaN_int_E (x : Int) : Option (Bool) :=
  some (decide (x ≠ x))

theorem E_slices_isNaN_int (x : Int) : Le (slices_isNaN_int_E x) (slices_isNaN_int x) := by
  unfold slices_isNaN_int_E slices_isNaN_int
  repeat' (first
    | assumption
    | with_reducible exact le_rfl _
    | exact le_rfl _
    | apply le_bind
    | apply le_chk
    | apply le_ite
    | apply le_join
    | apply le_loop
    | dsimp only
    | (intro (x : _ × _); obtain ⟨_, _⟩ := x)
    | (intro (x : _ ⊕ _); cases x)
    | intro _
    | split)

def slices_BinarySearch_int_int_E (x : List Int) (target : Int) : Option (Int × Bool) :=
  (loopE (ρ := Int) (fun ((i, j) : Int × Int) =>
  if i < j then
  chk ((-9223372036854775808 ≤ (i + j : Int) ∧ (i + j : Int) ≤ 9223372036854775807) ∧ (0 ≤ (i + j : Int) ∧ (i + j : Int) ≤ 18446744073709551615) ∧ (-9223372036854775808 ≤ ((i + j) / 2 ^ 1 : Int) ∧ ((i + j) / 2 ^ 1 : Int) ≤ 9223372036854775807)) <|
  chk ((0 ≤ (i + j) / 2 ^ 1 ∧ (i + j) / 2 ^ 1 < x.length)) <|
  (cmp_Less_int_E (x.getD ((i + j) / 2 ^ 1).toNat 0) target).bindE fun y =>
  if y = true then
  chk ((-9223372036854775808 ≤ (((i + j) / 2 ^ 1) + 1 : Int) ∧ (((i + j) / 2 ^ 1) + 1 : Int) ≤ 9223372036854775807)) <|
  some (.inl (((i + j) / 2 ^ 1) + 1, j))
 else
  some (.inl (i, (i + j) / 2 ^ 1))
 else
  some (.inr i)) (0, (x.length : Int))).bindE fun (i1 : Int) =>
  chk (((i1 < (x.length : Int)) → (0 ≤ i1 ∧ i1 < x.length)) ∧ (((i1 < (x.length : Int)) ∧ ¬ (x.getD i1.toNat 0 = target)) → (0 ≤ i1 ∧ i1 < x.length))) <|
  (if ((i1 < (x.length : Int)) ∧ ¬ (x.getD i1.toNat 0 = target)) then slices_isNaN_int_E (x.getD i1.toNat 0) else some false).bindE fun y1 =>
  (if (((i1 < (x.length : Int)) ∧ ¬ (x.getD i1.toNat 0 = target)) ∧ y1 = true) then slices_isNaN_int_E target else some false).bindE fun y2 =>
  some (i1, decide ((i1 < (x.length : Int) ∧ (x.getD i1.toNat 0 = target ∨ (y1 = true ∧ y2 = true)))))

theorem E_slices_BinarySearch_int_int (x : List Int) (target : Int) : Le (slices_BinarySearch_int_int_E x target) (slices_BinarySearch_int_int x target) := by
  unfold slices_BinarySearch_int_int_E slices_BinarySearch_int_int
  repeat' (first
    | assumption
    | with_reducible exact le_rfl _
    | exact E_cmp_Less_int ..
    | exact E_slices_isNaN_int ..
    | apply le_bind
    | apply le_chk
    | apply le_ite
    | apply le_join
    | apply le_loop
    | dsimp only
    | (intro (x : _ × _); obtain ⟨_, _⟩ := x)
    | (intro (x : _ ⊕ _); cases x)
    | intro _
    | split)

def sets_Family_E (n : Int) (l : List Int) : Option (Int) :=
  if (n < 0 ∨ 8 < n) then
  some 1
 else
  (loopE (ρ := Unit ⊕ Int) (fun (v : Int) =>
  if v < (l.length : Int) then
  chk ((0 ≤ v ∧ v < l.length)) <|
  chk (((¬ (l.getD v.toNat 0 < 0)) → (0 ≤ n ∧ n ≤ 62)) ∧ (((¬ ((l.getD v.toNat 0 < 0 ∨ (2 ^ n.toNat : Int) ≤ l.getD v.toNat 0))) ∧ 0 < v) → (-9223372036854775808 ≤ (v - 1 : Int) ∧ (v - 1 : Int) ≤ 9223372036854775807)) ∧ (((¬ ((l.getD v.toNat 0 < 0 ∨ (2 ^ n.toNat : Int) ≤ l.getD v.toNat 0))) ∧ 0 < v) → (0 ≤ v - 1 ∧ v - 1 < l.length))) <|
  if ((l.getD v.toNat 0 < 0 ∨ (2 ^ n.toNat : Int) ≤ l.getD v.toNat 0) ∨ (0 < v ∧ l.getD v.toNat 0 ≤ l.getD (v - 1).toNat 0)) then
  some (.inr (.inr 1))
 else
  some (.inl (v + 1))
 else
  some (.inr (.inl ()))) 0).bindE fun z => match z with
  | .inl _ => (some 0)
  | .inr rr => some rr

theorem E_sets_Family (n : Int) (l : List Int) : Le (sets_Family_E n l) (sets_Family n l) := by
  unfold sets_Family_E sets_Family
  repeat' (first
    | assumption
    | with_reducible exact le_rfl _
    | exact le_rfl _
    | apply le_bind
    | apply le_chk
    | apply le_ite
    | apply le_join
    | apply le_loop
    | dsimp only
    | (intro (x : _ × _); obtain ⟨_, _⟩ := x)
    | (intro (x : _ ⊕ _); cases x)
    | intro _
    | split)

def sets_Check_E (n : Int) (s : Int) : Option (Int) :=
  chk (((¬ (((n < 0 ∨ 8 < n) ∨ s < 0))) → (0 ≤ n ∧ n ≤ 62))) <|
  if (((n < 0 ∨ 8 < n) ∨ s < 0) ∨ (2 ^ n.toNat : Int) ≤ s) then
  some 1
 else
  some 0

theorem E_sets_Check (n : Int) (s : Int) : Le (sets_Check_E n s) (sets_Check n s) := by
  unfold sets_Check_E sets_Check
  repeat' (first
    | assumption
    | with_reducible exact le_rfl _
    | exact le_rfl _
    | apply le_bind
    | apply le_chk
    | apply le_ite
    | apply le_join
    | apply le_loop
    | dsimp only
    | (intro (x : _ × _); obtain ⟨_, _⟩ := x)
    | (intro (x : _ ⊕ _); cases x)
    | intro _
    | split)

def rotaref_Pick_E (k : Int) (n : Int) : Option (Int) :=
  if k < 0 then
  chk ((-9223372036854775808 ≤ (-(k + 1) : Int) ∧ (-(k + 1) : Int) ≤ 9223372036854775807)) <|
  chk (n ≠ 0) <|
  some (Int.tmod (-(k + 1)) n)
 else
  chk (n ≠ 0) <|
  some (Int.tmod k n)

theorem E_rotaref_Pick (k : Int) (n : Int) : Le (rotaref_Pick_E k n) (rotaref_Pick k n) := by
  unfold rotaref_Pick_E rotaref_Pick
  repeat' (first
    | assumption
    | with_reducible exact le_rfl _
    | exact le_rfl _
    | apply le_bind
    | apply le_chk
    | apply le_ite
    | apply le_join
    | apply le_loop
    | dsimp only
    | (intro (x : _ × _); obtain ⟨_, _⟩ := x)
    | (intro (x : _ ⊕ _); cases x)
    | intro _
    | split)

def rotaref_All_E (n : Int) : Option (Int) :=
  chk ((0 ≤ n ∧ n ≤ 62) ∧ (-9223372036854775808 ≤ ((2 ^ n.toNat : Int) - 1 : Int) ∧ ((2 ^ n.toNat : Int) - 1 : Int) ≤ 9223372036854775807)) <|
  some ((2 ^ n.toNat : Int) - 1)

theorem E_rotaref_All (n : Int) : Le (rotaref_All_E n) (rotaref_All n) := by
  unfold rotaref_All_E rotaref_All
  repeat' (first
    | assumption
    | with_reducible exact le_rfl _
    | exact le_rfl _
    | apply le_bind
    | apply le_chk
    | apply le_ite
    | apply le_join
    | apply le_loop
    | dsimp only
    | (intro (x : _ × _); obtain ⟨_, _⟩ := x)
    | (intro (x : _ ⊕ _); cases x)
    | intro _
    | split)

def convex_Line_E (n : Int) : Option (List Int × Int) :=
  if (n < 0 ∨ 8 < n) then
  some ([], 1)
 else
  chk ((0 ≤ n ∧ n ≤ 62)) <|
  (loopE (ρ := List Int) (fun ((out0, v) : List Int × Int) =>
  if v < (2 ^ n.toNat : Int) then
  chk ((0 ≤ n ∧ n ≤ 62) ∧ (-9223372036854775808 ≤ ((2 ^ n.toNat : Int) - 1 : Int) ∧ ((2 ^ n.toNat : Int) - 1 : Int) ≤ 9223372036854775807) ∧ (0 ≤ (iandnot ((2 ^ n.toNat : Int) - 1) v : Int) ∧ (iandnot ((2 ^ n.toNat : Int) - 1) v : Int) ≤ 18446744073709551615)) <|
  (if ¬ (iandnot ((2 ^ n.toNat : Int) - 1) v = 0) then bits_Len (iandnot ((2 ^ n.toNat : Int) - 1) v) else some 0).bindE fun y =>
  (if ¬ (iandnot ((2 ^ n.toNat : Int) - 1) v = 0) then bits_TrailingZeros (iandnot ((2 ^ n.toNat : Int) - 1) v) else some 0).bindE fun y1 =>
  chk (((¬ (iandnot ((2 ^ n.toNat : Int) - 1) v = 0)) → (-9223372036854775808 ≤ (y - y1 : Int) ∧ (y - y1 : Int) ≤ 9223372036854775807))) <|
  (if ¬ (iandnot ((2 ^ n.toNat : Int) - 1) v = 0) then bits_OnesCount (iandnot ((2 ^ n.toNat : Int) - 1) v) else some 0).bindE fun y2 =>
  if (iandnot ((2 ^ n.toNat : Int) - 1) v = 0 ∨ y - y1 = y2) then
  chk (((out0 ++ [v]).length ≤ 8796093022208)) <|
  some (.inl (out0 ++ [v], v + 1))
 else
  some (.inl (out0, v + 1))
 else
  some (.inr out0)) ([], 0)).bindE fun (out01 : List Int) =>
  some (out01, 0)

theorem E_convex_Line (n : Int) : Le (convex_Line_E n) (convex_Line n) := by
  unfold convex_Line_E convex_Line
  repeat' (first
    | assumption
    | with_reducible exact le_rfl _
    | exact le_rfl _
    | apply le_bind
    | apply le_chk
    | apply le_ite
    | apply le_join
    | apply le_loop
    | dsimp only
    | (intro (x : _ × _); obtain ⟨_, _⟩ := x)
    | (intro (x : _ ⊕ _); cases x)
    | intro _
    | split)

def convex_has_E (l : List Int) (s : Int) : Option (Bool) :=
  (slices_BinarySearch_int_int_E l s).bindE fun y =>
  some y.2

theorem E_convex_has (l : List Int) (s : Int) : Le (convex_has_E l s) (convex_has l s) := by
  unfold convex_has_E convex_has
  repeat' (first
    | assumption
    | with_reducible exact le_rfl _
    | exact E_slices_BinarySearch_int_int ..
    | apply le_bind
    | apply le_chk
    | apply le_ite
    | apply le_join
    | apply le_loop
    | dsimp only
    | (intro (x : _ × _); obtain ⟨_, _⟩ := x)
    | (intro (x : _ ⊕ _); cases x)
    | intro _
    | split)

def convex_Check_E (n : Int) (a1 : List Int) : Option (Int) :=
  (sets_Family_E n a1).bindE fun y =>
  if y ≠ 0 then
  some y
 else
  chk (((¬ ((a1.length : Int) = 0)) → 0 < a1.length) ∧ ((¬ (((a1.length : Int) = 0 ∨ a1.getD 0 0 ≠ 0))) → (-9223372036854775808 ≤ ((a1.length : Int) - 1 : Int) ∧ ((a1.length : Int) - 1 : Int) ≤ 9223372036854775807)) ∧ ((¬ (((a1.length : Int) = 0 ∨ a1.getD 0 0 ≠ 0))) → (0 ≤ (a1.length : Int) - 1 ∧ (a1.length : Int) - 1 < a1.length)) ∧ ((¬ (((a1.length : Int) = 0 ∨ a1.getD 0 0 ≠ 0))) → (0 ≤ n ∧ n ≤ 62)) ∧ ((¬ (((a1.length : Int) = 0 ∨ a1.getD 0 0 ≠ 0))) → (-9223372036854775808 ≤ ((2 ^ n.toNat : Int) - 1 : Int) ∧ ((2 ^ n.toNat : Int) - 1 : Int) ≤ 9223372036854775807))) <|
  if (((a1.length : Int) = 0 ∨ a1.getD 0 0 ≠ 0) ∨ a1.getD ((a1.length : Int) - 1).toNat 0 ≠ (2 ^ n.toNat : Int) - 1) then
  some 3
 else
  (loopE (ρ := Unit ⊕ Int) (fun (v : Int) =>
  if v < (a1.length : Int) then
  chk ((0 ≤ v ∧ v < a1.length)) <|
  (loopE (ρ := Bool) (fun ((v1, v2) : Bool × Int) =>
  if v2 ≠ 0 then
  chk (((¬ (v1 = true)) → (-9223372036854775808 ≤ (-v2 : Int) ∧ (-v2 : Int) ≤ 9223372036854775807))) <|
  (if ¬ (v1 = true) then convex_has_E a1 (iandnot (a1.getD v.toNat 0) (iand v2 (-v2))) else some false).bindE fun y1 =>
  chk ((-9223372036854775808 ≤ (v2 - 1 : Int) ∧ (v2 - 1 : Int) ≤ 9223372036854775807)) <|
  some (.inl (decide ((v1 = true ∨ y1 = true)), iand v2 (v2 - 1)))
 else
  some (.inr v1)) (decide (a1.getD v.toNat 0 = 0), a1.getD v.toNat 0)).bindE fun (v3 : Bool) =>
  if ¬ (v3 = true) then
  some (.inr (.inr 3))
 else
  (loopE (ρ := Unit ⊕ Int) (fun (v4 : Int) =>
  if v4 < (a1.length : Int) then
  chk ((0 ≤ v4 ∧ v4 < a1.length)) <|
  (convex_has_E a1 (ior (a1.getD v.toNat 0) (a1.getD v4.toNat 0))).bindE fun y2 =>
  if ¬ (y2 = true) then
  some (.inr (.inr 3))
 else
  some (.inl (v4 + 1))
 else
  some (.inr (.inl ()))) 0).bindE fun z => match z with
  | .inl _ => (some (.inl (v + 1)))
  | .inr rr => some (.inr (.inr rr))
 else
  some (.inr (.inl ()))) 0).bindE fun z => match z with
  | .inl _ => (some 0)
  | .inr rr => some rr

theorem E_convex_Check (n : Int) (a1 : List Int) : Le (convex_Check_E n a1) (convex_Check n a1) := by
  unfold convex_Check_E convex_Check
  repeat' (first
    | assumption
    | with_reducible exact le_rfl _
    | exact E_convex_has ..
    | exact E_sets_Family ..
    | apply le_bind
    | apply le_chk
    | apply le_ite
    | apply le_join
    | apply le_loop
    | dsimp only
    | (intro (x : _ × _); obtain ⟨_, _⟩ := x)
    | (intro (x : _ ⊕ _); cases x)
    | intro _
    | split)

def convex_Orders_E (n : Int) (l : List Int) : Option (Int × Int) :=
  (convex_Check_E n l).bindE fun y =>
  if y ≠ 0 then
  some (0, y)
 else
  chk ((0 ≤ n ∧ n ≤ 62) ∧ (0 ≤ (2 ^ n.toNat : Int) ∧ (2 ^ n.toNat : Int) ≤ 1099511627776)) <|
  chk ((0 ≤ 0 ∧ 0 < ((List.replicate (2 ^ n.toNat : Int).toNat 0).length))) <|
  (loopE (ρ := List Int) (fun ((ways, v) : List Int × Int) =>
  if v < (l.length : Int) then
  chk ((0 ≤ v ∧ v < l.length)) <|
  (loopE (ρ := List Int) (fun ((ways2, t) : List Int × Int) =>
  if t ≠ 0 then
  chk ((-9223372036854775808 ≤ (-t : Int) ∧ (-t : Int) ≤ 9223372036854775807)) <|
  (convex_has_E l (iandnot (l.getD v.toNat 0) (iand t (-t)))).bindE fun y1 =>
  if y1 = true then
  chk ((0 ≤ l.getD v.toNat 0 ∧ l.getD v.toNat 0 < ways2.length) ∧ (0 ≤ iandnot (l.getD v.toNat 0) (iand t (-t)) ∧ iandnot (l.getD v.toNat 0) (iand t (-t)) < ways2.length) ∧ (-9223372036854775808 ≤ ((ways2.getD (l.getD v.toNat 0).toNat 0) + (ways2.getD (iandnot (l.getD v.toNat 0) (iand t (-t))).toNat 0) : Int) ∧ ((ways2.getD (l.getD v.toNat 0).toNat 0) + (ways2.getD (iandnot (l.getD v.toNat 0) (iand t (-t))).toNat 0) : Int) ≤ 9223372036854775807)) <|
  chk ((-9223372036854775808 ≤ (t - 1 : Int) ∧ (t - 1 : Int) ≤ 9223372036854775807)) <|
  some (.inl (ways2.set (l.getD v.toNat 0).toNat ((ways2.getD (l.getD v.toNat 0).toNat 0) + (ways2.getD (iandnot (l.getD v.toNat 0) (iand t (-t))).toNat 0)), iand t (t - 1)))
 else
  chk ((-9223372036854775808 ≤ (t - 1 : Int) ∧ (t - 1 : Int) ≤ 9223372036854775807)) <|
  some (.inl (ways2, iand t (t - 1)))
 else
  some (.inr ways2)) (ways, l.getD v.toNat 0)).bindE fun (ways3 : List Int) =>
  some (.inl (ways3, v + 1))
 else
  some (.inr ways)) ((List.replicate (2 ^ n.toNat : Int).toNat 0).set 0 1, 0)).bindE fun (ways1 : List Int) =>
  chk ((0 ≤ n ∧ n ≤ 62) ∧ (-9223372036854775808 ≤ ((2 ^ n.toNat : Int) - 1 : Int) ∧ ((2 ^ n.toNat : Int) - 1 : Int) ≤ 9223372036854775807) ∧ (0 ≤ (2 ^ n.toNat : Int) - 1 ∧ (2 ^ n.toNat : Int) - 1 < ways1.length)) <|
  some (ways1.getD ((2 ^ n.toNat : Int) - 1).toNat 0, 0)

theorem E_convex_Orders (n : Int) (l : List Int) : Le (convex_Orders_E n l) (convex_Orders n l) := by
  unfold convex_Orders_E convex_Orders
  repeat' (first
    | assumption
    | with_reducible exact le_rfl _
    | exact E_convex_Check ..
    | exact E_convex_has ..
    | apply le_bind
    | apply le_chk
    | apply le_ite
    | apply le_join
    | apply le_loop
    | dsimp only
    | (intro (x : _ × _); obtain ⟨_, _⟩ := x)
    | (intro (x : _ ⊕ _); cases x)
    | intro _
    | split)

def convex_right_E (n : Int) (l : List Int) (s : Int) : Option (Int) :=
  (convex_Check_E n l).bindE fun y =>
  if y ≠ 0 then
  some y
 else
  (sets_Check_E n s).bindE fun y1 =>
  some y1

theorem E_convex_right (n : Int) (l : List Int) (s : Int) : Le (convex_right_E n l s) (convex_right n l s) := by
  unfold convex_right_E convex_right
  repeat' (first
    | assumption
    | with_reducible exact le_rfl _
    | exact E_convex_Check ..
    | exact E_sets_Check ..
    | apply le_bind
    | apply le_chk
    | apply le_ite
    | apply le_join
    | apply le_loop
    | dsimp only
    | (intro (x : _ × _); obtain ⟨_, _⟩ := x)
    | (intro (x : _ ⊕ _); cases x)
    | intro _
    | split)

def convex_hull_E (n : Int) (l : List Int) (s : Int) : Option (Int) :=
  (loopE (ρ := Int) (fun ((best, v) : Int × Int) =>
  if v < (l.length : Int) then
  chk ((0 ≤ v ∧ v < l.length)) <|
  if iand (l.getD v.toNat 0) s = 0 then
  some (.inl (ior best (l.getD v.toNat 0), v + 1))
 else
  some (.inl (best, v + 1))
 else
  some (.inr best)) (0, 0)).bindE fun (best1 : Int) =>
  chk ((0 ≤ n ∧ n ≤ 62) ∧ (-9223372036854775808 ≤ ((2 ^ n.toNat : Int) - 1 : Int) ∧ ((2 ^ n.toNat : Int) - 1 : Int) ≤ 9223372036854775807)) <|
  some (iandnot ((2 ^ n.toNat : Int) - 1) best1)

theorem E_convex_hull (n : Int) (l : List Int) (s : Int) : Le (convex_hull_E n l s) (convex_hull n l s) := by
  unfold convex_hull_E convex_hull
  repeat' (first
    | assumption
    | with_reducible exact le_rfl _
    | exact le_rfl _
    | apply le_bind
    | apply le_chk
    | apply le_ite
    | apply le_join
    | apply le_loop
    | dsimp only
    | (intro (x : _ × _); obtain ⟨_, _⟩ := x)
    | (intro (x : _ ⊕ _); cases x)
    | intro _
    | split)

def convex_Hull_E (n : Int) (l : List Int) (s : Int) : Option (Int × Int) :=
  (convex_right_E n l s).bindE fun y =>
  if y ≠ 0 then
  some (0, y)
 else
  (convex_hull_E n l s).bindE fun y1 =>
  some (y1, 0)

theorem E_convex_Hull (n : Int) (l : List Int) (s : Int) : Le (convex_Hull_E n l s) (convex_Hull n l s) := by
  unfold convex_Hull_E convex_Hull
  repeat' (first
    | assumption
    | with_reducible exact le_rfl _
    | exact E_convex_hull ..
    | exact E_convex_right ..
    | apply le_bind
    | apply le_chk
    | apply le_ite
    | apply le_join
    | apply le_loop
    | dsimp only
    | (intro (x : _ × _); obtain ⟨_, _⟩ := x)
    | (intro (x : _ ⊕ _); cases x)
    | intro _
    | split)

def rotakeep_ConvexLines_E (k : Int) : Option (Bool) :=
  (rotaref_Pick_E k 8).bindE fun y =>
  chk ((-9223372036854775808 ≤ (1 + y : Int) ∧ (1 + y : Int) ≤ 9223372036854775807)) <|
  (convex_Line_E (1 + y)).bindE fun y1 =>
  (convex_Orders_E (1 + y) y1.1).bindE fun y2 =>
  chk ((-9223372036854775808 ≤ ((1 + y) - 1 : Int) ∧ ((1 + y) - 1 : Int) ≤ 9223372036854775807) ∧ (0 ≤ (1 + y) - 1 ∧ (1 + y) - 1 ≤ 62)) <|
  (convex_Hull_E (1 + y) y1.1 (ior 1 (2 ^ ((1 + y) - 1).toNat : Int))).bindE fun y3 =>
  chk ((((y1.2 = 0 ∧ y2.2 = 0) ∧ y3.2 = 0) → (-9223372036854775808 ≤ ((1 + y) - 1 : Int) ∧ ((1 + y) - 1 : Int) ≤ 9223372036854775807)) ∧ (((y1.2 = 0 ∧ y2.2 = 0) ∧ y3.2 = 0) → (0 ≤ (1 + y) - 1 ∧ (1 + y) - 1 ≤ 62))) <|
  (if (((y1.2 = 0 ∧ y2.2 = 0) ∧ y3.2 = 0) ∧ y2.1 = (2 ^ ((1 + y) - 1).toNat : Int)) then rotaref_All_E (1 + y) else some 0).bindE fun y4 =>
  chk ((((((y1.2 = 0 ∧ y2.2 = 0) ∧ y3.2 = 0) ∧ y2.1 = (2 ^ ((1 + y) - 1).toNat : Int)) ∧ y3.1 = y4) → (-9223372036854775808 ≤ ((1 + y) + 1 : Int) ∧ ((1 + y) + 1 : Int) ≤ 9223372036854775807)) ∧ (((((y1.2 = 0 ∧ y2.2 = 0) ∧ y3.2 = 0) ∧ y2.1 = (2 ^ ((1 + y) - 1).toNat : Int)) ∧ y3.1 = y4) → (-9223372036854775808 ≤ ((1 + y) * ((1 + y) + 1) : Int) ∧ ((1 + y) * ((1 + y) + 1) : Int) ≤ 9223372036854775807)) ∧ (((((y1.2 = 0 ∧ y2.2 = 0) ∧ y3.2 = 0) ∧ y2.1 = (2 ^ ((1 + y) - 1).toNat : Int)) ∧ y3.1 = y4) → (-9223372036854775808 ≤ (Int.tdiv ((1 + y) * ((1 + y) + 1)) 2 : Int) ∧ (Int.tdiv ((1 + y) * ((1 + y) + 1)) 2 : Int) ≤ 9223372036854775807)) ∧ (((((y1.2 = 0 ∧ y2.2 = 0) ∧ y3.2 = 0) ∧ y2.1 = (2 ^ ((1 + y) - 1).toNat : Int)) ∧ y3.1 = y4) → (-9223372036854775808 ≤ ((Int.tdiv ((1 + y) * ((1 + y) + 1)) 2) + 1 : Int) ∧ ((Int.tdiv ((1 + y) * ((1 + y) + 1)) 2) + 1 : Int) ≤ 9223372036854775807))) <|
  some (decide ((((((y1.2 = 0 ∧ y2.2 = 0) ∧ y3.2 = 0) ∧ y2.1 = (2 ^ ((1 + y) - 1).toNat : Int)) ∧ y3.1 = y4) ∧ (y1.1.length : Int) = (Int.tdiv ((1 + y) * ((1 + y) + 1)) 2) + 1)))

theorem E_rotakeep_ConvexLines (k : Int) : Le (rotakeep_ConvexLines_E k) (rotakeep_ConvexLines k) := by
  unfold rotakeep_ConvexLines_E rotakeep_ConvexLines
  repeat' (first
    | assumption
    | with_reducible exact le_rfl _
    | exact E_convex_Hull ..
    | exact E_convex_Line ..
    | exact E_convex_Orders ..
    | exact E_rotaref_All ..
    | exact E_rotaref_Pick ..
    | apply le_bind
    | apply le_chk
    | apply le_ite
    | apply le_join
    | apply le_loop
    | dsimp only
    | (intro (x : _ × _); obtain ⟨_, _⟩ := x)
    | (intro (x : _ ⊕ _); cases x)
    | intro _
    | split)

end Go.SH
