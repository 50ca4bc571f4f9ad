/-
  Plain functions of the program, computed. By a program of mine (ev.py). Conditions: none.
-/
import Derived.Test.YtdfclknhgpkghaaEV
import Derived.Test.YtdfclknhgpkghaaSpcmp
import Derived.Test.YtdfclknhgpkghaaSpslices
import Derived.Test.YtdfclknhgpkghaaSpbits
import Derived.Test.YtdfclknhgpkghaaSpsets
import Derived.Test.YtdfclknhgpkghaaSpaxioms
import Derived.Test.YtdfclknhgpkghaaSpflats
set_option linter.unusedVariables false
set_option linter.unusedSimpArgs false
namespace Go.SH
open Go Go.AX

def axioms_flat_E (r1 : List Int) (n : Int) (s : Int) : Option (Bool) :=
  (loopE (ρ := Unit ⊕ Bool) (fun (v : Int) =>
  if v < n then
  chk (0 ≤ v ∧ ((iand (s / 2 ^ v.toNat) 1 = 0) → (0 ≤ v ∧ v ≤ 62)) ∧ ((iand (s / 2 ^ v.toNat) 1 = 0) → (0 ≤ ior s (2 ^ v.toNat : Int) ∧ ior s (2 ^ v.toNat : Int) < r1.length)) ∧ ((iand (s / 2 ^ v.toNat) 1 = 0) → (0 ≤ s ∧ s < r1.length))) <|
  if (iand (s / 2 ^ v.toNat) 1 = 0 ∧ r1.getD (ior s (2 ^ v.toNat : Int)).toNat 0 = r1.getD s.toNat 0) then
  some (.inr (.inr false))
 else
  some (.inl (v + 1))
 else
  some (.inr (.inl ()))) 0).bindE fun z => match z with
  | .inl _ => (some true)
  | .inr rr => some rr

theorem E_axioms_flat (r1 : List Int) (n : Int) (s : Int) : Le (axioms_flat_E r1 n s) (axioms_flat r1 n s) := by
  unfold axioms_flat_E axioms_flat
  repeat' (first
    | assumption
    | with_reducible exact le_rfl _
    | exact le_rfl _
    | apply le_bind
    | apply le_chk
    | apply le_ite
    | apply le_join
    | apply le_loop
    | dsimp only
    | (intro (x : _ × _); obtain ⟨_, _⟩ := x)
    | (intro (x : _ ⊕ _); cases x)
    | intro _
    | split)

def axioms_Flats_1_E (r1 : List Int) (s : Int) (c0_0 : Int) (c0_1 : List Int) : Option (Bool) :=
  (axioms_flat_E r1 c0_0 s).bindE fun y =>
  some y

theorem E_axioms_Flats_1 (r1 : List Int) (s : Int) (c0_0 : Int) (c0_1 : List Int) : Le (axioms_Flats_1_E r1 s c0_0 c0_1) (axioms_Flats_1 r1 s c0_0 c0_1) := by
  unfold axioms_Flats_1_E axioms_Flats_1
  repeat' (first
    | assumption
    | with_reducible exact le_rfl _
    | exact E_axioms_flat ..
    | apply le_bind
    | apply le_chk
    | apply le_ite
    | apply le_join
    | apply le_loop
    | dsimp only
    | (intro (x : _ × _); obtain ⟨_, _⟩ := x)
    | (intro (x : _ ⊕ _); cases x)
    | intro _
    | split)

def cmp_isNaN_int_E (x : Int) : Option (Bool) :=
  some (decide (x ≠ x))

theorem E_cmp_isNaN_int (x : Int) : Le (cmp_isNaN_int_E x) (cmp_isNaN_int x) := by
  unfold cmp_isNaN_int_E cmp_isNaN_int
  repeat' (first
    | assumption
    | with_reducible exact le_rfl _
    | exact le_rfl _
    | apply le_bind
    | apply le_chk
    | apply le_ite
    | apply le_join
    | apply le_loop
    | dsimp only
    | (intro (x : _ × _); obtain ⟨_, _⟩ := x)
    | (intro (x : _ ⊕ _); cases x)
    | intro _
    | split)

def cmp_Less_int_E (x : Int) (y : Int) : Option (Bool) :=
  (cmp_isNaN_int_E x).bindE fun y1 =>
  (if y1 = true then cmp_isNaN_int_E y else some false).bindE fun y2 =>
  some (decide (((y1 = true ∧ ¬ (y2 = true)) ∨ x < y)))

theorem E_cmp_Less_int (x : Int) (y : Int) : Le (cmp_Less_int_E x y) (cmp_Less_int x y) := by
  unfold cmp_Less_int_E cmp_Less_int
  repeat' (first
    | assumption
    | with_reducible exact le_rfl _
    | exact E_cmp_isNaN_int ..
    | apply le_bind
    | apply le_chk
    | apply le_ite
    | apply le_join
    | apply le_loop
    | dsimp only
    | (intro (x : _ × _); obtain ⟨_, _⟩ := x)
    | (intro (x : _ ⊕ _); cases x)
    | intro _
    | split)

def slices_isNaN_int_E (x : Int) : Option (Bool) :=
  some (decide (x ≠ x))

theorem E_slices_isNaN_int (x : Int) : Le (slices_isNaN_int_E x) (slices_isNaN_int x) := by
  unfold slices_isNaN_int_E slices_isNaN_int
  repeat' (first
    | assumption
    | with_reducible exact le_rfl _
    | exact le_rfl _
    | apply le_bind
    | apply le_chk
    | apply le_ite
    | apply le_join
    | apply le_loop
    | dsimp only
    | (intro (x : _ × _); obtain ⟨_, _⟩ := x)
    | (intro (x : _ ⊕ _); cases x)
    | intro _
    | split)

def slices_BinarySearch_int_int_E (x : List Int) (target : Int) : Option (Int × Bool) :=
  (loopE (ρ := Int) (fun ((i, j) : Int × Int) =>
  if i < j then
  chk ((-9223372036854775808 ≤ (i + j : Int) ∧ (i + j : Int) ≤ 9223372036854775807) ∧ (0 ≤ (i + j : Int) ∧ (i + j : Int) ≤ 18446744073709551615) ∧ (-9223372036854775808 ≤ ((i + j) / 2 ^ 1 : Int) ∧ ((i + j) / 2 ^ 1 : Int) ≤ 9223372036854775807)) <|
  chk ((0 ≤ (i + j) / 2 ^ 1 ∧ (i + j) / 2 ^ 1 < x.length)) <|
  (cmp_Less_int_E (x.getD ((i + j) / 2 ^ 1).toNat 0) target).bindE fun y =>
  if y = true then
  chk ((-9223372036854775808 ≤ (((i + j) / 2 ^ 1) + 1 : Int) ∧ (((i + j) / 2 ^ 1) + 1 : Int) ≤ 9223372036854775807)) <|
  some (.inl (((i + j) / 2 ^ 1) + 1, j))
 else
  some (.inl (i, (i + j) / 2 ^ 1))
 else
  some (.inr i)) (0, (x.length : Int))).bindE fun (i1 : Int) =>
  chk (((i1 < (x.length : Int)) → (0 ≤ i1 ∧ i1 < x.length)) ∧ (((i1 < (x.length : Int)) ∧ ¬ (x.getD i1.toNat 0 = target)) → (0 ≤ i1 ∧ i1 < x.length))) <|
  (if ((i1 < (x.length : Int)) ∧ ¬ (x.getD i1.toNat 0 = target)) then slices_isNaN_int_E (x.getD i1.toNat 0) else some false).bindE fun y1 =>
  (if (((i1 < (x.length : Int)) ∧ ¬ (x.getD i1.toNat 0 = target)) ∧ y1 = true) then slices_isNaN_int_E target else some false).bindE fun y2 =>
  some (i1, decide ((i1 < (x.length : Int) ∧ (x.getD i1.toNat 0 = target ∨ (y1 = true ∧ y2 = true)))))

theorem E_slices_BinarySearch_int_int (x : List Int) (target : Int) : Le (slices_BinarySearch_int_int_E x target) (slices_BinarySearch_int_int x target) := by
  unfold slices_BinarySearch_int_int_E slices_BinarySearch_int_int
  repeat' (first
    | assumption
    | with_reducible exact le_rfl _
    | exact E_cmp_Less_int ..
    | exact E_slices_isNaN_int ..
    | apply le_bind
    | apply le_chk
    | apply le_ite
    | apply le_join
    | apply le_loop
    | dsimp only
    | (intro (x : _ × _); obtain ⟨_, _⟩ := x)
    | (intro (x : _ ⊕ _); cases x)
    | intro _
    | split)

def axioms_exchange_E (m_0 : Int) (m_1 : List Int) (a : Int) (b : Int) : Option (Bool) :=
  (loopE (ρ := Unit ⊕ Bool) (fun (out0 : Int) =>
  if out0 ≠ 0 then
  chk ((-9223372036854775808 ≤ (-out0 : Int) ∧ (-out0 : Int) ≤ 9223372036854775807)) <|
  (loopE (ρ := Bool) (fun ((ok, in0) : Bool × Int) =>
  if (in0 ≠ 0 ∧ ¬ (ok = true)) then
  chk ((-9223372036854775808 ≤ (-in0 : Int) ∧ (-in0 : Int) ≤ 9223372036854775807)) <|
  (slices_BinarySearch_int_int_E m_1 (ior (iandnot a (iand out0 (-out0))) (iand in0 (-in0)))).bindE fun y =>
  chk ((-9223372036854775808 ≤ (in0 - 1 : Int) ∧ (in0 - 1 : Int) ≤ 9223372036854775807)) <|
  some (.inl (y.2, iand in0 (in0 - 1)))
 else
  some (.inr ok)) (false, iandnot b a)).bindE fun (ok1 : Bool) =>
  if ¬ (ok1 = true) then
  some (.inr (.inr false))
 else
  chk ((-9223372036854775808 ≤ (out0 - 1 : Int) ∧ (out0 - 1 : Int) ≤ 9223372036854775807)) <|
  some (.inl (iand out0 (out0 - 1)))
 else
  some (.inr (.inl ()))) (iandnot a b)).bindE fun z => match z with
  | .inl _ => (some true)
  | .inr rr => some rr

theorem E_axioms_exchange (m_0 : Int) (m_1 : List Int) (a : Int) (b : Int) : Le (axioms_exchange_E m_0 m_1 a b) (axioms_exchange m_0 m_1 a b) := by
  unfold axioms_exchange_E axioms_exchange
  repeat' (first
    | assumption
    | with_reducible exact le_rfl _
    | exact E_slices_BinarySearch_int_int ..
    | apply le_bind
    | apply le_chk
    | apply le_ite
    | apply le_join
    | apply le_loop
    | dsimp only
    | (intro (x : _ × _); obtain ⟨_, _⟩ := x)
    | (intro (x : _ ⊕ _); cases x)
    | intro _
    | split)

def axioms_size_E (s : Int) : Option (Int) :=
  chk ((0 ≤ (s : Int) ∧ (s : Int) ≤ 18446744073709551615)) <|
  (bits_OnesCount s).bindE fun y =>
  some y

theorem E_axioms_size (s : Int) : Le (axioms_size_E s) (axioms_size s) := by
  unfold axioms_size_E axioms_size
  repeat' (first
    | assumption
    | with_reducible exact le_rfl _
    | exact le_rfl _
    | apply le_bind
    | apply le_chk
    | apply le_ite
    | apply le_join
    | apply le_loop
    | dsimp only
    | (intro (x : _ × _); obtain ⟨_, _⟩ := x)
    | (intro (x : _ ⊕ _); cases x)
    | intro _
    | split)

def sets_Family_E (n : Int) (l : List Int) : Option (Int) :=
  if (n < 0 ∨ 8 < n) then
  some 1
 else
  (loopE (ρ := Unit ⊕ Int) (fun (v : Int) =>
  if v < (l.length : Int) then
  chk ((0 ≤ v ∧ v < l.length)) <|
  chk (((¬ (l.getD v.toNat 0 < 0)) → (0 ≤ n ∧ n ≤ 62)) ∧ (((¬ ((l.getD v.toNat 0 < 0 ∨ (2 ^ n.toNat : Int) ≤ l.getD v.toNat 0))) ∧ 0 < v) → (-9223372036854775808 ≤ (v - 1 : Int) ∧ (v - 1 : Int) ≤ 9223372036854775807)) ∧ (((¬ ((l.getD v.toNat 0 < 0 ∨ (2 ^ n.toNat : Int) ≤ l.getD v.toNat 0))) ∧ 0 < v) → (0 ≤ v - 1 ∧ v - 1 < l.length))) <|
  if ((l.getD v.toNat 0 < 0 ∨ (2 ^ n.toNat : Int) ≤ l.getD v.toNat 0) ∨ (0 < v ∧ l.getD v.toNat 0 ≤ l.getD (v - 1).toNat 0)) then
  some (.inr (.inr 1))
 else
  some (.inl (v + 1))
 else
  some (.inr (.inl ()))) 0).bindE fun z => match z with
  | .inl _ => (some 0)
  | .inr rr => some rr

theorem E_sets_Family (n : Int) (l : List Int) : Le (sets_Family_E n l) (sets_Family n l) := by
  unfold sets_Family_E sets_Family
  repeat' (first
    | assumption
    | with_reducible exact le_rfl _
    | exact le_rfl _
    | apply le_bind
    | apply le_chk
    | apply le_ite
    | apply le_join
    | apply le_loop
    | dsimp only
    | (intro (x : _ × _); obtain ⟨_, _⟩ := x)
    | (intro (x : _ ⊕ _); cases x)
    | intro _
    | split)

def axioms_Check_E (m_0 : Int) (m_1 : List Int) : Option (Int) :=
  (sets_Family_E m_0 m_1).bindE fun y =>
  if (y ≠ 0 ∨ (m_1.length : Int) = 0) then
  some 1
 else
  (loopE (ρ := Unit ⊕ Int) (fun (v : Int) =>
  if v < (m_1.length : Int) then
  chk ((0 ≤ v ∧ v < m_1.length)) <|
  (axioms_size_E (m_1.getD v.toNat 0)).bindE fun y1 =>
  chk (0 < m_1.length) <|
  (axioms_size_E (m_1.getD 0 0)).bindE fun y2 =>
  if y1 ≠ y2 then
  some (.inr (.inr 1))
 else
  some (.inl (v + 1))
 else
  some (.inr (.inl ()))) 0).bindE fun z => match z with
  | .inl _ => ((loopE (ρ := Unit ⊕ Int) (fun (v1 : Int) =>
  if v1 < (m_1.length : Int) then
  chk ((0 ≤ v1 ∧ v1 < m_1.length)) <|
  (loopE (ρ := Unit ⊕ Int) (fun (v2 : Int) =>
  if v2 < (m_1.length : Int) then
  chk ((0 ≤ v2 ∧ v2 < m_1.length)) <|
  (axioms_exchange_E m_0 m_1 (m_1.getD v1.toNat 0) (m_1.getD v2.toNat 0)).bindE fun y3 =>
  if ¬ (y3 = true) then
  some (.inr (.inr 3))
 else
  some (.inl (v2 + 1))
 else
  some (.inr (.inl ()))) 0).bindE fun z => match z with
  | .inl _ => (some (.inl (v1 + 1)))
  | .inr rr => some (.inr (.inr rr))
 else
  some (.inr (.inl ()))) 0).bindE fun z => match z with
  | .inl _ => (some 0)
  | .inr rr => some rr)
  | .inr rr => some rr

theorem E_axioms_Check (m_0 : Int) (m_1 : List Int) : Le (axioms_Check_E m_0 m_1) (axioms_Check m_0 m_1) := by
  unfold axioms_Check_E axioms_Check
  repeat' (first
    | assumption
    | with_reducible exact le_rfl _
    | exact E_axioms_exchange ..
    | exact E_axioms_size ..
    | exact E_sets_Family ..
    | apply le_bind
    | apply le_chk
    | apply le_ite
    | apply le_join
    | apply le_loop
    | dsimp only
    | (intro (x : _ × _); obtain ⟨_, _⟩ := x)
    | (intro (x : _ ⊕ _); cases x)
    | intro _
    | split)

def axioms_ranks_E (m_0 : Int) (m_1 : List Int) : Option (List Int) :=
  chk ((0 ≤ m_0 ∧ m_0 ≤ 62) ∧ (0 ≤ (2 ^ m_0.toNat : Int) ∧ (2 ^ m_0.toNat : Int) ≤ 1099511627776)) <|
  (loopE (ρ := List Int) (fun ((out0, v) : List Int × Int) =>
  if v < ((List.replicate (2 ^ m_0.toNat : Int).toNat 0).length : Int) then
  (loopE (ρ := List Int) (fun ((out02, v1) : List Int × Int) =>
  if v1 < (m_1.length : Int) then
  chk ((0 ≤ v1 ∧ v1 < m_1.length)) <|
  chk ((0 ≤ v ∧ v < out02.length)) <|
  (axioms_size_E (iand v (m_1.getD v1.toNat 0))).bindE fun y =>
  chk ((0 ≤ v ∧ v < out02.length)) <|
  some (.inl (out02.set v.toNat (max (out02.getD v.toNat 0) y), v1 + 1))
 else
  some (.inr out02)) (out0, 0)).bindE fun (out03 : List Int) =>
  some (.inl (out03, v + 1))
 else
  some (.inr out0)) (List.replicate (2 ^ m_0.toNat : Int).toNat 0, 0)).bindE fun (out01 : List Int) =>
  some out01

theorem E_axioms_ranks (m_0 : Int) (m_1 : List Int) : Le (axioms_ranks_E m_0 m_1) (axioms_ranks m_0 m_1) := by
  unfold axioms_ranks_E axioms_ranks
  repeat' (first
    | assumption
    | with_reducible exact le_rfl _
    | exact E_axioms_size ..
    | apply le_bind
    | apply le_chk
    | apply le_ite
    | apply le_join
    | apply le_loop
    | dsimp only
    | (intro (x : _ × _); obtain ⟨_, _⟩ := x)
    | (intro (x : _ ⊕ _); cases x)
    | intro _
    | split)

def axioms_family_E (m_0 : Int) (m_1 : List Int) (kind : (List Int) → Int → Option (Bool)) : Option (List Int × Int) :=
  (axioms_Check_E m_0 m_1).bindE fun y =>
  if y ≠ 0 then
  some ([], y)
 else
  (axioms_ranks_E m_0 m_1).bindE fun y1 =>
  (loopE (ρ := List Int) (fun ((out0, v) : List Int × Int) =>
  if v < (y1.length : Int) then
  (kind y1 v).bindE fun y2 =>
  if y2 = true then
  chk (((out0 ++ [v]).length ≤ 8796093022208)) <|
  some (.inl (out0 ++ [v], v + 1))
 else
  some (.inl (out0, v + 1))
 else
  some (.inr out0)) ([], 0)).bindE fun (out01 : List Int) =>
  some (out01, 0)

theorem E_axioms_family (m_0 : Int) (m_1 : List Int) (kind : (List Int) → Int → Option (Bool)) (kind' : (List Int) → Int → Option (Bool)) (h_kind : ∀ a0 a1, Le (kind a0 a1) (kind' a0 a1)) : Le (axioms_family_E m_0 m_1 kind) (axioms_family m_0 m_1 kind') := by
  unfold axioms_family_E axioms_family
  repeat' (first
    | assumption
    | with_reducible exact le_rfl _
    | exact E_axioms_Check ..
    | exact E_axioms_ranks ..
    | apply h_kind
    | apply le_bind
    | apply le_chk
    | apply le_ite
    | apply le_join
    | apply le_loop
    | dsimp only
    | (intro (x : _ × _); obtain ⟨_, _⟩ := x)
    | (intro (x : _ ⊕ _); cases x)
    | intro _
    | split)

def axioms_Flats_E (m_0 : Int) (m_1 : List Int) : Option (List Int × Int) :=
  (axioms_family_E m_0 m_1 (fun x0 x1 => axioms_Flats_1_E x0 x1 m_0 m_1)).bindE fun y =>
  some (y.1, y.2)

theorem E_axioms_Flats (m_0 : Int) (m_1 : List Int) : Le (axioms_Flats_E m_0 m_1) (axioms_Flats m_0 m_1) := by
  unfold axioms_Flats_E axioms_Flats
  repeat' (first
    | assumption
    | with_reducible exact le_rfl _
    | exact E_axioms_Flats_1 ..
    | apply E_axioms_family
    | apply le_bind
    | apply le_chk
    | apply le_ite
    | apply le_join
    | apply le_loop
    | dsimp only
    | (intro (x : _ × _); obtain ⟨_, _⟩ := x)
    | (intro (x : _ ⊕ _); cases x)
    | intro _
    | split)

def axioms_Ranks_E (m_0 : Int) (m_1 : List Int) : Option (List Int × Int) :=
  (axioms_Check_E m_0 m_1).bindE fun y =>
  if y ≠ 0 then
  some ([], y)
 else
  (axioms_ranks_E m_0 m_1).bindE fun y1 =>
  some (y1, 0)

theorem E_axioms_Ranks (m_0 : Int) (m_1 : List Int) : Le (axioms_Ranks_E m_0 m_1) (axioms_Ranks m_0 m_1) := by
  unfold axioms_Ranks_E axioms_Ranks
  repeat' (first
    | assumption
    | with_reducible exact le_rfl _
    | exact E_axioms_Check ..
    | exact E_axioms_ranks ..
    | apply le_bind
    | apply le_chk
    | apply le_ite
    | apply le_join
    | apply le_loop
    | dsimp only
    | (intro (x : _ × _); obtain ⟨_, _⟩ := x)
    | (intro (x : _ ⊕ _); cases x)
    | intro _
    | split)

def flats_of_E (m_0 : Int) (m_1 : List Int) : Option (Int × List Int × List Int × Int) :=
  (axioms_Flats_E m_0 m_1).bindE fun y =>
  if y.2 ≠ 0 then
  some (0, [], [], y.2)
 else
  (axioms_Ranks_E m_0 m_1).bindE fun y1 =>
  some (m_0, y.1, y1.1, 0)

theorem E_flats_of (m_0 : Int) (m_1 : List Int) : Le (flats_of_E m_0 m_1) (flats_of m_0 m_1) := by
  unfold flats_of_E flats_of
  repeat' (first
    | assumption
    | with_reducible exact le_rfl _
    | exact E_axioms_Flats ..
    | exact E_axioms_Ranks ..
    | apply le_bind
    | apply le_chk
    | apply le_ite
    | apply le_join
    | apply le_loop
    | dsimp only
    | (intro (x : _ × _); obtain ⟨_, _⟩ := x)
    | (intro (x : _ ⊕ _); cases x)
    | intro _
    | split)

def flats_Chains_E (m_0 : Int) (m_1 : List Int) : Option (Int × Int) :=
  (flats_of_E m_0 m_1).bindE fun y =>
  if y.2.2.2 ≠ 0 then
  some (0, y.2.2.2)
 else
  chk ((0 ≤ (y.2.1.length : Int) ∧ (y.2.1.length : Int) ≤ 1099511627776)) <|
  (loopE (ρ := List Int) (fun ((v, v1) : List Int × Int) =>
  if v1 < (y.2.1.length : Int) then
  chk ((0 ≤ v1 ∧ v1 < y.2.1.length)) <|
  joinM (fun (v3 : List Int) =>
  chk ((0 ≤ v1 ∧ v1 ≤ y.2.1.length)) <|
  (loopE (ρ := List Int) (fun ((v4, v5) : List Int × Int) =>
  if v5 < (v1.toNat : Int) then
  chk ((0 ≤ v5 ∧ v5 < v1.toNat)) <|
  chk (((iand (y.2.1.getD v5.toNat 0) (y.2.1.getD v1.toNat 0) = y.2.1.getD v5.toNat 0) → (0 ≤ y.2.1.getD v5.toNat 0 ∧ y.2.1.getD v5.toNat 0 < y.2.2.1.length)) ∧ ((iand (y.2.1.getD v5.toNat 0) (y.2.1.getD v1.toNat 0) = y.2.1.getD v5.toNat 0) → (-9223372036854775808 ≤ ((y.2.2.1.getD (y.2.1.getD v5.toNat 0).toNat 0) + 1 : Int) ∧ ((y.2.2.1.getD (y.2.1.getD v5.toNat 0).toNat 0) + 1 : Int) ≤ 9223372036854775807)) ∧ ((iand (y.2.1.getD v5.toNat 0) (y.2.1.getD v1.toNat 0) = y.2.1.getD v5.toNat 0) → (0 ≤ y.2.1.getD v1.toNat 0 ∧ y.2.1.getD v1.toNat 0 < y.2.2.1.length))) <|
  if (iand (y.2.1.getD v5.toNat 0) (y.2.1.getD v1.toNat 0) = y.2.1.getD v5.toNat 0 ∧ (y.2.2.1.getD (y.2.1.getD v5.toNat 0).toNat 0) + 1 = y.2.2.1.getD (y.2.1.getD v1.toNat 0).toNat 0) then
  chk ((0 ≤ v1 ∧ v1 < v4.length) ∧ (0 ≤ v5 ∧ v5 < v4.length) ∧ (-9223372036854775808 ≤ ((v4.getD v1.toNat 0) + (v4.getD v5.toNat 0) : Int) ∧ ((v4.getD v1.toNat 0) + (v4.getD v5.toNat 0) : Int) ≤ 9223372036854775807)) <|
  some (.inl (v4.set v1.toNat ((v4.getD v1.toNat 0) + (v4.getD v5.toNat 0)), v5 + 1))
 else
  some (.inl (v4, v5 + 1))
 else
  some (.inr v4)) (v3, 0)).bindE fun (v6 : List Int) =>
  some (.inl (v6, v1 + 1))) fun j =>
  if v1 = 0 then
  chk ((0 ≤ v1 ∧ v1 < v.length)) <|
  j (v.set v1.toNat 1)
 else
  j v
 else
  some (.inr v)) (List.replicate (y.2.1.length : Int).toNat 0, 0)).bindE fun (v2 : List Int) =>
  chk ((-9223372036854775808 ≤ ((v2.length : Int) - 1 : Int) ∧ ((v2.length : Int) - 1 : Int) ≤ 9223372036854775807) ∧ (0 ≤ (v2.length : Int) - 1 ∧ (v2.length : Int) - 1 < v2.length)) <|
  some (v2.getD ((v2.length : Int) - 1).toNat 0, 0)

theorem E_flats_Chains (m_0 : Int) (m_1 : List Int) : Le (flats_Chains_E m_0 m_1) (flats_Chains m_0 m_1) := by
  unfold flats_Chains_E flats_Chains
  repeat' (first
    | assumption
    | with_reducible exact le_rfl _
    | exact E_flats_of ..
    | apply le_bind
    | apply le_chk
    | apply le_ite
    | apply le_join
    | apply le_loop
    | dsimp only
    | (intro (x : _ × _); obtain ⟨_, _⟩ := x)
    | (intro (x : _ ⊕ _); cases x)
    | intro _
    | split)

end Go.SH
