/-
  Plain functions of the program, computed. By a program of mine (ev.py). Conditions: none.
-/
import Derived.Test.YtdfclknhgpkghaaEV
import Derived.Test.YtdfclknhgpkghaaSpcmp
import Derived.Test.YtdfclknhgpkghaaSpslices
import Derived.Test.YtdfclknhgpkghaaSpbits
import Derived.Test.YtdfclknhgpkghaaSpsets
import Derived.Test.YtdfclknhgpkghaaSpaxioms
import Derived.Test.YtdfclknhgpkghaaSpvalues
set_option linter.unusedVariables false
set_option linter.unusedSimpArgs false
namespace Go.SH
open Go Go.AX

def slices_BinarySearchFunc_api_Value_api_Value_int_E (x : List (Int × Int)) (target : Int) (cmp : Int → Int → Int → Option (Int)) : Option (Int × Bool) :=
  (loopE (ρ := Int) (fun ((i, j) : Int × Int) =>
  if i < j then
  chk ((-9223372036854775808 ≤ (i + j : Int) ∧ (i + j : Int) ≤ 9223372036854775807) ∧ (0 ≤ (i + j : Int) ∧ (i + j : Int) ≤ 18446744073709551615) ∧ (-9223372036854775808 ≤ ((i + j) / 2 ^ 1 : Int) ∧ ((i + j) / 2 ^ 1 : Int) ≤ 9223372036854775807)) <|
  chk ((0 ≤ (i + j) / 2 ^ 1 ∧ (i + j) / 2 ^ 1 < x.length)) <|
  (cmp ((x.getD ((i + j) / 2 ^ 1).toNat (0, 0)).1) ((x.getD ((i + j) / 2 ^ 1).toNat (0, 0)).2) target).bindE fun y =>
  if y < 0 then
  chk ((-9223372036854775808 ≤ (((i + j) / 2 ^ 1) + 1 : Int) ∧ (((i + j) / 2 ^ 1) + 1 : Int) ≤ 9223372036854775807)) <|
  some (.inl (((i + j) / 2 ^ 1) + 1, j))
 else
  some (.inl (i, (i + j) / 2 ^ 1))
 else
  some (.inr i)) (0, (x.length : Int))).bindE fun (i1 : Int) =>
  chk (((i1 < (x.length : Int)) → (0 ≤ i1 ∧ i1 < x.length))) <|
  if i1 < (x.length : Int) then
  (cmp ((x.getD i1.toNat (0, 0)).1) ((x.getD i1.toNat (0, 0)).2) target).bindE fun y1 =>
  some (i1, decide (y1 = 0))
 else
  some (i1, false)

theorem E_slices_BinarySearchFunc_api_Value_api_Value_int (x : List (Int × Int)) (target : Int) (cmp : Int → Int → Int → Option (Int)) (cmp' : Int → Int → Int → Option (Int)) (h_cmp : ∀ a0 a1 a2, Le (cmp a0 a1 a2) (cmp' a0 a1 a2)) : Le (slices_BinarySearchFunc_api_Value_api_Value_int_E x target cmp) (slices_BinarySearchFunc_api_Value_api_Value_int x target cmp') := by
  unfold slices_BinarySearchFunc_api_Value_api_Value_int_E slices_BinarySearchFunc_api_Value_api_Value_int
  repeat' (first
    | assumption
    | with_reducible exact le_rfl _
    | apply h_cmp
    | apply le_bind
    | apply le_chk
    | apply le_ite
    | apply le_join
    | apply le_loop
    | dsimp only
    | (intro (x : _ × _); obtain ⟨_, _⟩ := x)
    | (intro (x : _ ⊕ _); cases x)
    | intro _
    | split)

def values_of_1_E (v_0 : Int) (v_1 : Int) (b : Int) : Option (Int) :=
  chk ((-9223372036854775808 ≤ (v_0 - b : Int) ∧ (v_0 - b : Int) ≤ 9223372036854775807)) <|
  some (v_0 - b)

theorem E_values_of_1 (v_0 : Int) (v_1 : Int) (b : Int) : Le (values_of_1_E v_0 v_1 b) (values_of_1 v_0 v_1 b) := by
  unfold values_of_1_E values_of_1
  repeat' (first
    | assumption
    | with_reducible exact le_rfl _
    | exact le_rfl _
    | apply le_bind
    | apply le_chk
    | apply le_ite
    | apply le_join
    | apply le_loop
    | dsimp only
    | (intro (x : _ × _); obtain ⟨_, _⟩ := x)
    | (intro (x : _ ⊕ _); cases x)
    | intro _
    | split)

def values_of_E (l : List (Int × Int)) (b : Int) : Option (Int × Bool) :=
  (slices_BinarySearchFunc_api_Value_api_Value_int_E l b (fun x0 x1 x2 => values_of_1_E x0 x1 x2)).bindE fun y =>
  if ¬ (y.2 = true) then
  some (0, false)
 else
  chk ((0 ≤ y.1 ∧ y.1 < l.length)) <|
  some ((l.getD y.1.toNat (0, 0)).2, true)

theorem E_values_of (l : List (Int × Int)) (b : Int) : Le (values_of_E l b) (values_of l b) := by
  unfold values_of_E values_of
  repeat' (first
    | assumption
    | with_reducible exact le_rfl _
    | apply E_slices_BinarySearchFunc_api_Value_api_Value_int
    | exact E_values_of_1 ..
    | apply le_bind
    | apply le_chk
    | apply le_ite
    | apply le_join
    | apply le_loop
    | dsimp only
    | (intro (x : _ × _); obtain ⟨_, _⟩ := x)
    | (intro (x : _ ⊕ _); cases x)
    | intro _
    | split)

def cmp_isNaN_int_E (x : Int) : Option (Bool) :=
  some (decide (x ≠ x))

theorem E_cmp_isNaN_int (x : Int) : Le (cmp_isNaN_int_E x) (cmp_isNaN_int x) := by
  unfold cmp_isNaN_int_E cmp_isNaN_int
  repeat' (first
    | assumption
    | with_reducible exact le_rfl _
    | exact le_rfl _
    | apply le_bind
    | apply le_chk
    | apply le_ite
    | apply le_join
    | apply le_loop
    | dsimp only
    | (intro (x : _ × _); obtain ⟨_, _⟩ := x)
    | (intro (x : _ ⊕ _); cases x)
    | intro _
    | split)

def cmp_Less_int_E (x : Int) (y : Int) : Option (Bool) :=
  (cmp_isNaN_int_E x).bindE fun y1 =>
  (if y1 = true then cmp_isNaN_int_E y else some false).bindE fun y2 =>
  some (decide (((y1 = true ∧ ¬ (y2 = true)) ∨ x < y)))

theorem E_cmp_Less_int (x : Int) (y : Int) : Le (cmp_Less_int_E x y) (cmp_Less_int x y) := by
  unfold cmp_Less_int_E cmp_Less_int
  repeat' (first
    | assumption
    | with_reducible exact le_rfl _
    | exact E_cmp_isNaN_int ..
    | apply le_bind
    | apply le_chk
    | apply le_ite
    | apply le_join
    | apply le_loop
    | dsimp only
    | (intro (x : _ × _); obtain ⟨_, _⟩ := x)
    | (intro (x : _ ⊕ _); cases x)
    | intro _
    | split)

def slices_isNaN_int_E (x : Int) : Option (Bool) :=
  some (decide (x ≠ x))

theorem E_slices_isNaN_int (x : Int) : Le (slices_isNaN_int_E x) (slices_isNaN_int x) := by
  unfold slices_isNaN_int_E slices_isNaN_int
  repeat' (first
    | assumption
    | with_reducible exact le_rfl _
    | exact le_rfl _
    | apply le_bind
    | apply le_chk
    | apply le_ite
    | apply le_join
    | apply le_loop
    | dsimp only
    | (intro (x : _ × _); obtain ⟨_, _⟩ := x)
    | (intro (x : _ ⊕ _); cases x)
    | intro _
    | split)

def slices_BinarySearch_int_int_E (x : List Int) (target : Int) : Option (Int × Bool) :=
  (loopE (ρ := Int) (fun ((i, j) : Int × Int) =>
  if i < j then
  chk ((-9223372036854775808 ≤ (i + j : Int) ∧ (i + j : Int) ≤ 9223372036854775807) ∧ (0 ≤ (i + j : Int) ∧ (i + j : Int) ≤ 18446744073709551615) ∧ (-9223372036854775808 ≤ ((i + j) / 2 ^ 1 : Int) ∧ ((i + j) / 2 ^ 1 : Int) ≤ 9223372036854775807)) <|
  chk ((0 ≤ (i + j) / 2 ^ 1 ∧ (i + j) / 2 ^ 1 < x.length)) <|
  (cmp_Less_int_E (x.getD ((i + j) / 2 ^ 1).toNat 0) target).bindE fun y =>
  if y = true then
  chk ((-9223372036854775808 ≤ (((i + j) / 2 ^ 1) + 1 : Int) ∧ (((i + j) / 2 ^ 1) + 1 : Int) ≤ 9223372036854775807)) <|
  some (.inl (((i + j) / 2 ^ 1) + 1, j))
 else
  some (.inl (i, (i + j) / 2 ^ 1))
 else
  some (.inr i)) (0, (x.length : Int))).bindE fun (i1 : Int) =>
  chk (((i1 < (x.length : Int)) → (0 ≤ i1 ∧ i1 < x.length)) ∧ (((i1 < (x.length : Int)) ∧ ¬ (x.getD i1.toNat 0 = target)) → (0 ≤ i1 ∧ i1 < x.length))) <|
  (if ((i1 < (x.length : Int)) ∧ ¬ (x.getD i1.toNat 0 = target)) then slices_isNaN_int_E (x.getD i1.toNat 0) else some false).bindE fun y1 =>
  (if (((i1 < (x.length : Int)) ∧ ¬ (x.getD i1.toNat 0 = target)) ∧ y1 = true) then slices_isNaN_int_E target else some false).bindE fun y2 =>
  some (i1, decide ((i1 < (x.length : Int) ∧ (x.getD i1.toNat 0 = target ∨ (y1 = true ∧ y2 = true)))))

theorem E_slices_BinarySearch_int_int (x : List Int) (target : Int) : Le (slices_BinarySearch_int_int_E x target) (slices_BinarySearch_int_int x target) := by
  unfold slices_BinarySearch_int_int_E slices_BinarySearch_int_int
  repeat' (first
    | assumption
    | with_reducible exact le_rfl _
    | exact E_cmp_Less_int ..
    | exact E_slices_isNaN_int ..
    | apply le_bind
    | apply le_chk
    | apply le_ite
    | apply le_join
    | apply le_loop
    | dsimp only
    | (intro (x : _ × _); obtain ⟨_, _⟩ := x)
    | (intro (x : _ ⊕ _); cases x)
    | intro _
    | split)

def axioms_exchange_E (m_0 : Int) (m_1 : List Int) (a : Int) (b : Int) : Option (Bool) :=
  (loopE (ρ := Unit ⊕ Bool) (fun (out0 : Int) =>
  if out0 ≠ 0 then
  chk ((-9223372036854775808 ≤ (-out0 : Int) ∧ (-out0 : Int) ≤ 9223372036854775807)) <|
  (loopE (ρ := Bool) (fun ((ok, in0) : Bool × Int) =>
  if (in0 ≠ 0 ∧ ¬ (ok = true)) then
  chk ((-9223372036854775808 ≤ (-in0 : Int) ∧ (-in0 : Int) ≤ 9223372036854775807)) <|
  (slices_BinarySearch_int_int_E m_1 (ior (iandnot a (iand out0 (-out0))) (iand in0 (-in0)))).bindE fun y =>
  chk ((-9223372036854775808 ≤ (in0 - 1 : Int) ∧ (in0 - 1 : Int) ≤ 9223372036854775807)) <|
  some (.inl (y.2, iand in0 (in0 - 1)))
 else
  some (.inr ok)) (false, iandnot b a)).bindE fun (ok1 : Bool) =>
  if ¬ (ok1 = true) then
  some (.inr (.inr false))
 else
  chk ((-9223372036854775808 ≤ (out0 - 1 : Int) ∧ (out0 - 1 : Int) ≤ 9223372036854775807)) <|
  some (.inl (iand out0 (out0 - 1)))
 else
  some (.inr (.inl ()))) (iandnot a b)).bindE fun z => match z with
  | .inl _ => (some true)
  | .inr rr => some rr

theorem E_axioms_exchange (m_0 : Int) (m_1 : List Int) (a : Int) (b : Int) : Le (axioms_exchange_E m_0 m_1 a b) (axioms_exchange m_0 m_1 a b) := by
  unfold axioms_exchange_E axioms_exchange
  repeat' (first
    | assumption
    | with_reducible exact le_rfl _
    | exact E_slices_BinarySearch_int_int ..
    | apply le_bind
    | apply le_chk
    | apply le_ite
    | apply le_join
    | apply le_loop
    | dsimp only
    | (intro (x : _ × _); obtain ⟨_, _⟩ := x)
    | (intro (x : _ ⊕ _); cases x)
    | intro _
    | split)

def axioms_size_E (s : Int) : Option (Int) :=
  chk ((0 ≤ (s : Int) ∧ (s : Int) ≤ 18446744073709551615)) <|
  (bits_OnesCount s).bindE fun y =>
  some y

theorem E_axioms_size (s : Int) : Le (axioms_size_E s) (axioms_size s) := by
  unfold axioms_size_E axioms_size
  repeat' (first
    | assumption
    | with_reducible exact le_rfl _
    | exact le_rfl _
    | apply le_bind
    | apply le_chk
    | apply le_ite
    | apply le_join
    | apply le_loop
    | dsimp only
    | (intro (x : _ × _); obtain ⟨_, _⟩ := x)
    | (intro (x : _ ⊕ _); cases x)
    | intro _
    | split)

def sets_Family_E (n : Int) (l : List Int) : Option (Int) :=
  if (n < 0 ∨ 8 < n) then
  some 1
 else
  (loopE (ρ := Unit ⊕ Int) (fun (v : Int) =>
  if v < (l.length : Int) then
  chk ((0 ≤ v ∧ v < l.length)) <|
  chk (((¬ (l.getD v.toNat 0 < 0)) → (0 ≤ n ∧ n ≤ 62)) ∧ (((¬ ((l.getD v.toNat 0 < 0 ∨ (2 ^ n.toNat : Int) ≤ l.getD v.toNat 0))) ∧ 0 < v) → (-9223372036854775808 ≤ (v - 1 : Int) ∧ (v - 1 : Int) ≤ 9223372036854775807)) ∧ (((¬ ((l.getD v.toNat 0 < 0 ∨ (2 ^ n.toNat : Int) ≤ l.getD v.toNat 0))) ∧ 0 < v) → (0 ≤ v - 1 ∧ v - 1 < l.length))) <|
  if ((l.getD v.toNat 0 < 0 ∨ (2 ^ n.toNat : Int) ≤ l.getD v.toNat 0) ∨ (0 < v ∧ l.getD v.toNat 0 ≤ l.getD (v - 1).toNat 0)) then
  some (.inr (.inr 1))
 else
  some (.inl (v + 1))
 else
  some (.inr (.inl ()))) 0).bindE fun z => match z with
  | .inl _ => (some 0)
  | .inr rr => some rr

theorem E_sets_Family (n : Int) (l : List Int) : Le (sets_Family_E n l) (sets_Family n l) := by
  unfold sets_Family_E sets_Family
  repeat' (first
    | assumption
    | with_reducible exact le_rfl _
    | exact le_rfl _
    | apply le_bind
    | apply le_chk
    | apply le_ite
    | apply le_join
    | apply le_loop
    | dsimp only
    | (intro (x : _ × _); obtain ⟨_, _⟩ := x)
    | (intro (x : _ ⊕ _); cases x)
    | intro _
    | split)

def axioms_Check_E (m_0 : Int) (m_1 : List Int) : Option (Int) :=
  (sets_Family_E m_0 m_1).bindE fun y =>
  if (y ≠ 0 ∨ (m_1.length : Int) = 0) then
  some 1
 else
  (loopE (ρ := Unit ⊕ Int) (fun (v : Int) =>
  if v < (m_1.length : Int) then
  chk ((0 ≤ v ∧ v < m_1.length)) <|
  (axioms_size_E (m_1.getD v.toNat 0)).bindE fun y1 =>
  chk (0 < m_1.length) <|
  (axioms_size_E (m_1.getD 0 0)).bindE fun y2 =>
  if y1 ≠ y2 then
  some (.inr (.inr 1))
 else
  some (.inl (v + 1))
 else
  some (.inr (.inl ()))) 0).bindE fun z => match z with
  | .inl _ => ((loopE (ρ := Unit ⊕ Int) (fun (v1 : Int) =>
  if v1 < (m_1.length : Int) then
  chk ((0 ≤ v1 ∧ v1 < m_1.length)) <|
  (loopE (ρ := Unit ⊕ Int) (fun (v2 : Int) =>
  if v2 < (m_1.length : Int) then
  chk ((0 ≤ v2 ∧ v2 < m_1.length)) <|
  (axioms_exchange_E m_0 m_1 (m_1.getD v1.toNat 0) (m_1.getD v2.toNat 0)).bindE fun y3 =>
  if ¬ (y3 = true) then
  some (.inr (.inr 3))
 else
  some (.inl (v2 + 1))
 else
  some (.inr (.inl ()))) 0).bindE fun z => match z with
  | .inl _ => (some (.inl (v1 + 1)))
  | .inr rr => some (.inr (.inr rr))
 else
  some (.inr (.inl ()))) 0).bindE fun z => match z with
  | .inl _ => (some 0)
  | .inr rr => some rr)
  | .inr rr => some rr

theorem E_axioms_Check (m_0 : Int) (m_1 : List Int) : Le (axioms_Check_E m_0 m_1) (axioms_Check m_0 m_1) := by
  unfold axioms_Check_E axioms_Check
  repeat' (first
    | assumption
    | with_reducible exact le_rfl _
    | exact E_axioms_exchange ..
    | exact E_axioms_size ..
    | exact E_sets_Family ..
    | apply le_bind
    | apply le_chk
    | apply le_ite
    | apply le_join
    | apply le_loop
    | dsimp only
    | (intro (x : _ × _); obtain ⟨_, _⟩ := x)
    | (intro (x : _ ⊕ _); cases x)
    | intro _
    | split)

def values_under_E (n : Int) (l : List (Int × Int)) : Option (Int × List Int × Int) :=
  (loopE (ρ := List Int) (fun ((m, v) : List Int × Int) =>
  if v < (l.length : Int) then
  chk ((0 ≤ v ∧ v < l.length)) <|
  chk (((m ++ [(l.getD v.toNat (0, 0)).1]).length ≤ 8796093022208)) <|
  some (.inl (m ++ [(l.getD v.toNat (0, 0)).1], v + 1))
 else
  some (.inr m)) ([], 0)).bindE fun (m1 : List Int) =>
  (axioms_Check_E n m1).bindE fun y =>
  if y ≠ 0 then
  some (n, m1, y)
 else
  (loopE (ρ := Unit ⊕ (Int × List Int × Int)) (fun (v1 : Int) =>
  if v1 < (l.length : Int) then
  chk ((0 ≤ v1 ∧ v1 < l.length)) <|
  if ((l.getD v1.toNat (0, 0)).2 < (-1000) ∨ 1000 < (l.getD v1.toNat (0, 0)).2) then
  some (.inr (.inr (n, m1, 1)))
 else
  some (.inl (v1 + 1))
 else
  some (.inr (.inl ()))) 0).bindE fun z => match z with
  | .inl _ => (some (n, m1, 0))
  | .inr rr => some rr

theorem E_values_under (n : Int) (l : List (Int × Int)) : Le (values_under_E n l) (values_under n l) := by
  unfold values_under_E values_under
  repeat' (first
    | assumption
    | with_reducible exact le_rfl _
    | exact E_axioms_Check ..
    | apply le_bind
    | apply le_chk
    | apply le_ite
    | apply le_join
    | apply le_loop
    | dsimp only
    | (intro (x : _ × _); obtain ⟨_, _⟩ := x)
    | (intro (x : _ ⊕ _); cases x)
    | intro _
    | split)

def values_Check_E (n : Int) (a1 : List (Int × Int)) : Option (Int) :=
  (values_under_E n a1).bindE fun y =>
  if y.2.2 ≠ 0 then
  some y.2.2
 else
  (loopE (ρ := Unit ⊕ Int) (fun (v : Int) =>
  if v < (a1.length : Int) then
  chk ((0 ≤ v ∧ v < a1.length)) <|
  (loopE (ρ := Unit ⊕ Int) (fun (v1 : Int) =>
  if v1 < (a1.length : Int) then
  chk ((0 ≤ v1 ∧ v1 < a1.length)) <|
  (loopE (ρ := Unit ⊕ Int) (fun (v2 : Int) =>
  if v2 ≠ 0 then
  chk ((-9223372036854775808 ≤ (-v2 : Int) ∧ (-v2 : Int) ≤ 9223372036854775807)) <|
  (loopE (ρ := Bool) (fun ((v3, v4) : Bool × Int) =>
  if (v4 ≠ 0 ∧ ¬ (v3 = true)) then
  chk ((-9223372036854775808 ≤ (-v4 : Int) ∧ (-v4 : Int) ≤ 9223372036854775807)) <|
  (values_of_E a1 (ior (iandnot ((a1.getD v.toNat (0, 0)).1) (iand v2 (-v2))) (iand v4 (-v4)))).bindE fun y1 =>
  (values_of_E a1 (ior (iandnot ((a1.getD v1.toNat (0, 0)).1) (iand v4 (-v4))) (iand v2 (-v2)))).bindE fun y2 =>
  chk (((y1.2 = true ∧ y2.2 = true) → (-9223372036854775808 ≤ (((a1.getD v.toNat (0, 0)).2) + ((a1.getD v1.toNat (0, 0)).2) : Int) ∧ (((a1.getD v.toNat (0, 0)).2) + ((a1.getD v1.toNat (0, 0)).2) : Int) ≤ 9223372036854775807)) ∧ ((y1.2 = true ∧ y2.2 = true) → (-9223372036854775808 ≤ (y1.1 + y2.1 : Int) ∧ (y1.1 + y2.1 : Int) ≤ 9223372036854775807))) <|
  chk ((-9223372036854775808 ≤ (v4 - 1 : Int) ∧ (v4 - 1 : Int) ≤ 9223372036854775807)) <|
  some (.inl (decide (((y1.2 = true ∧ y2.2 = true) ∧ ((a1.getD v.toNat (0, 0)).2) + ((a1.getD v1.toNat (0, 0)).2) ≤ y1.1 + y2.1)), iand v4 (v4 - 1)))
 else
  some (.inr v3)) (false, iandnot ((a1.getD v1.toNat (0, 0)).1) ((a1.getD v.toNat (0, 0)).1))).bindE fun (v5 : Bool) =>
  if ¬ (v5 = true) then
  some (.inr (.inr 6))
 else
  chk ((-9223372036854775808 ≤ (v2 - 1 : Int) ∧ (v2 - 1 : Int) ≤ 9223372036854775807)) <|
  some (.inl (iand v2 (v2 - 1)))
 else
  some (.inr (.inl ()))) (iandnot ((a1.getD v.toNat (0, 0)).1) ((a1.getD v1.toNat (0, 0)).1))).bindE fun z => match z with
  | .inl _ => (some (.inl (v1 + 1)))
  | .inr rr => some (.inr (.inr rr))
 else
  some (.inr (.inl ()))) 0).bindE fun z => match z with
  | .inl _ => (some (.inl (v + 1)))
  | .inr rr => some (.inr (.inr rr))
 else
  some (.inr (.inl ()))) 0).bindE fun z => match z with
  | .inl _ => (some 0)
  | .inr rr => some rr

theorem E_values_Check (n : Int) (a1 : List (Int × Int)) : Le (values_Check_E n a1) (values_Check n a1) := by
  unfold values_Check_E values_Check
  repeat' (first
    | assumption
    | with_reducible exact le_rfl _
    | exact E_values_of ..
    | exact E_values_under ..
    | apply le_bind
    | apply le_chk
    | apply le_ite
    | apply le_join
    | apply le_loop
    | dsimp only
    | (intro (x : _ × _); obtain ⟨_, _⟩ := x)
    | (intro (x : _ ⊕ _); cases x)
    | intro _
    | split)

def values_prices_E (n : Int) (w : List Int) : Option (Int) :=
  if (w.length : Int) ≠ n then
  some 3
 else
  (loopE (ρ := Unit ⊕ Int) (fun (v : Int) =>
  if v < (w.length : Int) then
  chk ((0 ≤ v ∧ v < w.length)) <|
  if (w.getD v.toNat 0 < (-1000) ∨ 1000 < w.getD v.toNat 0) then
  some (.inr (.inr 1))
 else
  some (.inl (v + 1))
 else
  some (.inr (.inl ()))) 0).bindE fun z => match z with
  | .inl _ => (some 0)
  | .inr rr => some rr

theorem E_values_prices (n : Int) (w : List Int) : Le (values_prices_E n w) (values_prices n w) := by
  unfold values_prices_E values_prices
  repeat' (first
    | assumption
    | with_reducible exact le_rfl _
    | exact le_rfl _
    | apply le_bind
    | apply le_chk
    | apply le_ite
    | apply le_join
    | apply le_loop
    | dsimp only
    | (intro (x : _ × _); obtain ⟨_, _⟩ := x)
    | (intro (x : _ ⊕ _); cases x)
    | intro _
    | split)

def values_size_E (s : Int) : Option (Int) :=
  chk ((0 ≤ (s : Int) ∧ (s : Int) ≤ 18446744073709551615)) <|
  (bits_OnesCount s).bindE fun y =>
  some y

theorem E_values_size (s : Int) : Le (values_size_E s) (values_size s) := by
  unfold values_size_E values_size
  repeat' (first
    | assumption
    | with_reducible exact le_rfl _
    | exact le_rfl _
    | apply le_bind
    | apply le_chk
    | apply le_ite
    | apply le_join
    | apply le_loop
    | dsimp only
    | (intro (x : _ × _); obtain ⟨_, _⟩ := x)
    | (intro (x : _ ⊕ _); cases x)
    | intro _
    | split)

def values_worth_E (v_0 : Int) (v_1 : Int) (w : List Int) : Option (Int) :=
  (loopE (ρ := Int) (fun ((n, v1) : Int × Int) =>
  if v1 < (w.length : Int) then
  chk ((0 ≤ v1 ∧ v1 < w.length)) <|
  chk (0 ≤ v1 ∧ (-9223372036854775808 ≤ ((w.getD v1.toNat 0) * (iand (v_0 / 2 ^ v1.toNat) 1) : Int) ∧ ((w.getD v1.toNat 0) * (iand (v_0 / 2 ^ v1.toNat) 1) : Int) ≤ 9223372036854775807) ∧ (-9223372036854775808 ≤ (n + ((w.getD v1.toNat 0) * (iand (v_0 / 2 ^ v1.toNat) 1)) : Int) ∧ (n + ((w.getD v1.toNat 0) * (iand (v_0 / 2 ^ v1.toNat) 1)) : Int) ≤ 9223372036854775807)) <|
  some (.inl (n + ((w.getD v1.toNat 0) * (iand (v_0 / 2 ^ v1.toNat) 1)), v1 + 1))
 else
  some (.inr n)) (v_1, 0)).bindE fun (n1 : Int) =>
  some n1

theorem E_values_worth (v_0 : Int) (v_1 : Int) (w : List Int) : Le (values_worth_E v_0 v_1 w) (values_worth v_0 v_1 w) := by
  unfold values_worth_E values_worth
  repeat' (first
    | assumption
    | with_reducible exact le_rfl _
    | exact le_rfl _
    | apply le_bind
    | apply le_chk
    | apply le_ite
    | apply le_join
    | apply le_loop
    | dsimp only
    | (intro (x : _ × _); obtain ⟨_, _⟩ := x)
    | (intro (x : _ ⊕ _); cases x)
    | intro _
    | split)

def values_Best_E (n : Int) (a1 : List (Int × Int)) (a2 : List Int) : Option (Int × Int × Int) :=
  (values_Check_E n a1).bindE fun y =>
  if y ≠ 0 then
  some (0, 0, y)
 else
  (values_prices_E n a2).bindE fun y1 =>
  if y1 ≠ 0 then
  some (0, 0, y1)
 else
  chk (0 < a1.length) <|
  (loopE (ρ := Int × Int) (fun ((v, v1, v2) : Int × Int × Bool) =>
  if v2 = true then
  (loopE (ρ := Int × Int × Bool) (fun (v5 : Int) =>
  if v5 < (a1.length : Int) then
  chk ((0 ≤ v5 ∧ v5 < a1.length)) <|
  (values_size_E (iandnot ((a1.getD v5.toNat (0, 0)).1) v)).bindE fun y2 =>
  (if y2 = 1 then values_worth_E ((a1.getD v5.toNat (0, 0)).1) ((a1.getD v5.toNat (0, 0)).2) a2 else some 0).bindE fun y3 =>
  (if y2 = 1 then values_worth_E v v1 a2 else some 0).bindE fun y4 =>
  (if ((y2 = 1) ∧ ¬ (y4 < y3)) then values_worth_E ((a1.getD v5.toNat (0, 0)).1) ((a1.getD v5.toNat (0, 0)).2) a2 else some 0).bindE fun y5 =>
  (if ((y2 = 1) ∧ ¬ (y4 < y3)) then values_worth_E v v1 a2 else some 0).bindE fun y6 =>
  if (y2 = 1 ∧ (y4 < y3 ∨ (y5 = y6 ∧ (a1.getD v5.toNat (0, 0)).1 < v))) then
  some (.inr ((a1.getD v5.toNat (0, 0)).1, (a1.getD v5.toNat (0, 0)).2, true))
 else
  some (.inl (v5 + 1))
 else
  some (.inr (v, v1, false))) 0).bindE fun ((v6, v7, v8) : Int × Int × Bool) =>
  some (.inl (v6, v7, v8))
 else
  some (.inr (v, v1))) ((a1.getD 0 (0, 0)).1, (a1.getD 0 (0, 0)).2, true)).bindE fun ((v3, v4) : Int × Int) =>
  (loopE (ρ := Unit ⊕ (Int × Int × Int)) (fun (v9 : Int) =>
  if v9 < (a1.length : Int) then
  chk ((0 ≤ v9 ∧ v9 < a1.length)) <|
  (values_worth_E ((a1.getD v9.toNat (0, 0)).1) ((a1.getD v9.toNat (0, 0)).2) a2).bindE fun y7 =>
  (values_worth_E v3 v4 a2).bindE fun y8 =>
  if y7 = y8 then
  (values_worth_E ((a1.getD v9.toNat (0, 0)).1) ((a1.getD v9.toNat (0, 0)).2) a2).bindE fun y9 =>
  some (.inr (.inr ((a1.getD v9.toNat (0, 0)).1, y9, 0)))
 else
  some (.inl (v9 + 1))
 else
  some (.inr (.inl ()))) 0).bindE fun z => match z with
  | .inl _ => (some (0, 0, 0))
  | .inr rr => some rr

theorem E_values_Best (n : Int) (a1 : List (Int × Int)) (a2 : List Int) : Le (values_Best_E n a1 a2) (values_Best n a1 a2) := by
  unfold values_Best_E values_Best
  repeat' (first
    | assumption
    | with_reducible exact le_rfl _
    | exact E_values_Check ..
    | exact E_values_prices ..
    | exact E_values_size ..
    | exact E_values_worth ..
    | apply le_bind
    | apply le_chk
    | apply le_ite
    | apply le_join
    | apply le_loop
    | dsimp only
    | (intro (x : _ × _); obtain ⟨_, _⟩ := x)
    | (intro (x : _ ⊕ _); cases x)
    | intro _
    | split)

end Go.SH
