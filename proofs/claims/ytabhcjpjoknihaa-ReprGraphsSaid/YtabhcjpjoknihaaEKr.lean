/-
  Plain functions of the program, computed. By a program of mine (ev.py). Conditions: none.
-/
import Derived.Test.YtabhcjpjoknihaaEV
import Derived.Test.YtabhcjpjoknihaaSp
set_option linter.unusedVariables false
set_option linter.unusedSimpArgs false
namespace Go.SH
open Go Go.AX

def cmp_isNaN_int_E (x : Int) : Option (Bool) :=
  some (decide (x ≠ x))

theorem E_cmp_isNaN_int (x : Int) : Le (cmp_isNaN_int_E x) (cmp_isNaN_int x) := by
  unfold cmp_isNaN_int_E cmp_isNaN_int
  repeat' (first
    | assumption
    | with_reducible exact le_rfl _
    | exact le_rfl _
    | apply le_bind
    | apply le_chk
    | apply le_ite
    | apply le_join
    | apply le_loop
    | dsimp only
    | (intro (x : _ × _); obtain ⟨_, _⟩ := x)
    | (intro (x : _ ⊕ _); cases x)
    | intro _
    | split)

def cmp_Less_int_E (x : Int) (y : Int) : Option (Bool) :=
  (cmp_isNaN_int_E x).bindE fun y1 =>
  (if y1 = true then cmp_isNaN_int_E y else some false).bindE fun y2 =>
  some (decide (((y1 = true ∧ ¬ (y2 = true)) ∨ x < y)))

theorem E_cmp_Less_int (x : Int) (y : Int) : Le (cmp_Less_int_E x y) (cmp_Less_int x y) := by
  unfold cmp_Less_int_E cmp_Less_int
  repeat' (first
    | assumption
    | with_reducible exact le_rfl _
    | exact E_cmp_isNaN_int ..
    | apply le_bind
    | apply le_chk
    | apply le_ite
    | apply le_join
    | apply le_loop
    | dsimp only
    | (intro (x : _ × _); obtain ⟨_, _⟩ := x)
    | (intro (x : _ ⊕ _); cases x)
    | intro _
    | split)

def slices_isNaN_int_E (x : Int) : Option (Bool) :=
  some (decide (x ≠ x))

theorem E_slices_isNaN_int (x : Int) : Le (slices_isNaN_int_E x) (slices_isNaN_int x) := by
  unfold slices_isNaN_int_E slices_isNaN_int
  repeat' (first
    | assumption
    | with_reducible exact le_rfl _
    | exact le_rfl _
    | apply le_bind
    | apply le_chk
    | apply le_ite
    | apply le_join
    | apply le_loop
    | dsimp only
    | (intro (x : _ × _); obtain ⟨_, _⟩ := x)
    | (intro (x : _ ⊕ _); cases x)
    | intro _
    | split)

def slices_BinarySearch_int_int_E (x : List Int) (target : Int) : Option (Int × Bool) :=
  (loopE (ρ := Int) (fun ((i, j) : Int × Int) =>
  if i < j then
  chk ((-9223372036854775808 ≤ (i + j : Int) ∧ (i + j : Int) ≤ 9223372036854775807) ∧ (0 ≤ (i + j : Int) ∧ (i + j : Int) ≤ 18446744073709551615) ∧ (-9223372036854775808 ≤ ((i + j) / 2 ^ 1 : Int) ∧ ((i + j) / 2 ^ 1 : Int) ≤ 9223372036854775807)) <|
  chk ((0 ≤ (i + j) / 2 ^ 1 ∧ (i + j) / 2 ^ 1 < x.length)) <|
  (cmp_Less_int_E (x.getD ((i + j) / 2 ^ 1).toNat 0) target).bindE fun y =>
  if y = true then
  chk ((-9223372036854775808 ≤ (((i + j) / 2 ^ 1) + 1 : Int) ∧ (((i + j) / 2 ^ 1) + 1 : Int) ≤ 9223372036854775807)) <|
  some (.inl (((i + j) / 2 ^ 1) + 1, j))
 else
  some (.inl (i, (i + j) / 2 ^ 1))
 else
  some (.inr i)) (0, (x.length : Int))).bindE fun (i1 : Int) =>
  chk (((i1 < (x.length : Int)) → (0 ≤ i1 ∧ i1 < x.length)) ∧ (((i1 < (x.length : Int)) ∧ ¬ (x.getD i1.toNat 0 = target)) → (0 ≤ i1 ∧ i1 < x.length))) <|
  (if ((i1 < (x.length : Int)) ∧ ¬ (x.getD i1.toNat 0 = target)) then slices_isNaN_int_E (x.getD i1.toNat 0) else some false).bindE fun y1 =>
  (if (((i1 < (x.length : Int)) ∧ ¬ (x.getD i1.toNat 0 = target)) ∧ y1 = true) then slices_isNaN_int_E target else some false).bindE fun y2 =>
  some (i1, decide ((i1 < (x.length : Int) ∧ (x.getD i1.toNat 0 = target ∨ (y1 = true ∧ y2 = true)))))

theorem E_slices_BinarySearch_int_int (x : List Int) (target : Int) : Le (slices_BinarySearch_int_int_E x target) (slices_BinarySearch_int_int x target) := by
  unfold slices_BinarySearch_int_int_E slices_BinarySearch_int_int
  repeat' (first
    | assumption
    | with_reducible exact le_rfl _
    | exact E_cmp_Less_int ..
    | exact E_slices_isNaN_int ..
    | apply le_bind
    | apply le_chk
    | apply le_ite
    | apply le_join
    | apply le_loop
    | dsimp only
    | (intro (x : _ × _); obtain ⟨_, _⟩ := x)
    | (intro (x : _ ⊕ _); cases x)
    | intro _
    | split)

def axioms_exchange_E (m_0 : Int) (m_1 : List Int) (a : Int) (b : Int) : Option (Bool) :=
  (loopE (ρ := Unit ⊕ Bool) (fun (out0 : Int) =>
  if out0 ≠ 0 then
  chk ((-9223372036854775808 ≤ (-out0 : Int) ∧ (-out0 : Int) ≤ 9223372036854775807)) <|
  (loopE (ρ := Bool) (fun ((ok, in0) : Bool × Int) =>
  if (in0 ≠ 0 ∧ ¬ (ok = true)) then
  chk ((-9223372036854775808 ≤ (-in0 : Int) ∧ (-in0 : Int) ≤ 9223372036854775807)) <|
  (slices_BinarySearch_int_int_E m_1 (ior (iandnot a (iand out0 (-out0))) (iand in0 (-in0)))).bindE fun y =>
  chk ((-9223372036854775808 ≤ (in0 - 1 : Int) ∧ (in0 - 1 : Int) ≤ 9223372036854775807)) <|
  some (.inl (y.2, iand in0 (in0 - 1)))
 else
  some (.inr ok)) (false, iandnot b a)).bindE fun (ok1 : Bool) =>
  if ¬ (ok1 = true) then
  some (.inr (.inr false))
 else
  chk ((-9223372036854775808 ≤ (out0 - 1 : Int) ∧ (out0 - 1 : Int) ≤ 9223372036854775807)) <|
  some (.inl (iand out0 (out0 - 1)))
 else
  some (.inr (.inl ()))) (iandnot a b)).bindE fun z => match z with
  | .inl _ => (some true)
  | .inr rr => some rr

theorem E_axioms_exchange (m_0 : Int) (m_1 : List Int) (a : Int) (b : Int) : Le (axioms_exchange_E m_0 m_1 a b) (axioms_exchange m_0 m_1 a b) := by
  unfold axioms_exchange_E axioms_exchange
  repeat' (first
    | assumption
    | with_reducible exact le_rfl _
    | exact E_slices_BinarySearch_int_int ..
    | apply le_bind
    | apply le_chk
    | apply le_ite
    | apply le_join
    | apply le_loop
    | dsimp only
    | (intro (x : _ × _); obtain ⟨_, _⟩ := x)
    | (intro (x : _ ⊕ _); cases x)
    | intro _
    | split)

def axioms_size_E (s : Int) : Option (Int) :=
  chk ((0 ≤ (s : Int) ∧ (s : Int) ≤ 18446744073709551615)) <|
  (bits_OnesCount s).bindE fun y =>
  some y

theorem E_axioms_size (s : Int) : Le (axioms_size_E s) (axioms_size s) := by
  unfold axioms_size_E axioms_size
  repeat' (first
    | assumption
    | with_reducible exact le_rfl _
    | exact le_rfl _
    | apply le_bind
    | apply le_chk
    | apply le_ite
    | apply le_join
    | apply le_loop
    | dsimp only
    | (intro (x : _ × _); obtain ⟨_, _⟩ := x)
    | (intro (x : _ ⊕ _); cases x)
    | intro _
    | split)

def sets_Family_E (n : Int) (l : List Int) : Option (Int) :=
  if (n < 0 ∨ 8 < n) then
  some 1
 else
  (loopE (ρ := Unit ⊕ Int) (fun (v : Int) =>
  if v < (l.length : Int) then
  chk ((0 ≤ v ∧ v < l.length)) <|
  chk (((¬ (l.getD v.toNat 0 < 0)) → (0 ≤ n ∧ n ≤ 62)) ∧ (((¬ ((l.getD v.toNat 0 < 0 ∨ (2 ^ n.toNat : Int) ≤ l.getD v.toNat 0))) ∧ 0 < v) → (-9223372036854775808 ≤ (v - 1 : Int) ∧ (v - 1 : Int) ≤ 9223372036854775807)) ∧ (((¬ ((l.getD v.toNat 0 < 0 ∨ (2 ^ n.toNat : Int) ≤ l.getD v.toNat 0))) ∧ 0 < v) → (0 ≤ v - 1 ∧ v - 1 < l.length))) <|
  if ((l.getD v.toNat 0 < 0 ∨ (2 ^ n.toNat : Int) ≤ l.getD v.toNat 0) ∨ (0 < v ∧ l.getD v.toNat 0 ≤ l.getD (v - 1).toNat 0)) then
  some (.inr (.inr 1))
 else
  some (.inl (v + 1))
 else
  some (.inr (.inl ()))) 0).bindE fun z => match z with
  | .inl _ => (some 0)
  | .inr rr => some rr

theorem E_sets_Family (n : Int) (l : List Int) : Le (sets_Family_E n l) (sets_Family n l) := by
  unfold sets_Family_E sets_Family
  repeat' (first
    | assumption
    | with_reducible exact le_rfl _
    | exact le_rfl _
    | apply le_bind
    | apply le_chk
    | apply le_ite
    | apply le_join
    | apply le_loop
    | dsimp only
    | (intro (x : _ × _); obtain ⟨_, _⟩ := x)
    | (intro (x : _ ⊕ _); cases x)
    | intro _
    | split)

def axioms_Check_E (m_0 : Int) (m_1 : List Int) : Option (Int) :=
  (sets_Family_E m_0 m_1).bindE fun y =>
  if (y ≠ 0 ∨ (m_1.length : Int) = 0) then
  some 1
 else
  (loopE (ρ := Unit ⊕ Int) (fun (v : Int) =>
  if v < (m_1.length : Int) then
  chk ((0 ≤ v ∧ v < m_1.length)) <|
  (axioms_size_E (m_1.getD v.toNat 0)).bindE fun y1 =>
  chk (0 < m_1.length) <|
  (axioms_size_E (m_1.getD 0 0)).bindE fun y2 =>
  if y1 ≠ y2 then
  some (.inr (.inr 1))
 else
  some (.inl (v + 1))
 else
  some (.inr (.inl ()))) 0).bindE fun z => match z with
  | .inl _ => ((loopE (ρ := Unit ⊕ Int) (fun (v1 : Int) =>
  if v1 < (m_1.length : Int) then
  chk ((0 ≤ v1 ∧ v1 < m_1.length)) <|
  (loopE (ρ := Unit ⊕ Int) (fun (v2 : Int) =>
  if v2 < (m_1.length : Int) then
  chk ((0 ≤ v2 ∧ v2 < m_1.length)) <|
  (axioms_exchange_E m_0 m_1 (m_1.getD v1.toNat 0) (m_1.getD v2.toNat 0)).bindE fun y3 =>
  if ¬ (y3 = true) then
  some (.inr (.inr 3))
 else
  some (.inl (v2 + 1))
 else
  some (.inr (.inl ()))) 0).bindE fun z => match z with
  | .inl _ => (some (.inl (v1 + 1)))
  | .inr rr => some (.inr (.inr rr))
 else
  some (.inr (.inl ()))) 0).bindE fun z => match z with
  | .inl _ => (some 0)
  | .inr rr => some rr)
  | .inr rr => some rr

theorem E_axioms_Check (m_0 : Int) (m_1 : List Int) : Le (axioms_Check_E m_0 m_1) (axioms_Check m_0 m_1) := by
  unfold axioms_Check_E axioms_Check
  repeat' (first
    | assumption
    | with_reducible exact le_rfl _
    | exact E_axioms_exchange ..
    | exact E_axioms_size ..
    | exact E_sets_Family ..
    | apply le_bind
    | apply le_chk
    | apply le_ite
    | apply le_join
    | apply le_loop
    | dsimp only
    | (intro (x : _ × _); obtain ⟨_, _⟩ := x)
    | (intro (x : _ ⊕ _); cases x)
    | intro _
    | split)

def axioms_ranks_E (m_0 : Int) (m_1 : List Int) : Option (List Int) :=
  chk ((0 ≤ m_0 ∧ m_0 ≤ 62) ∧ (0 ≤ (2 ^ m_0.toNat : Int) ∧ (2 ^ m_0.toNat : Int) ≤ 1099511627776)) <|
  (loopE (ρ := List Int) (fun ((out0, v) : List Int × Int) =>
  if v < ((List.replicate (2 ^ m_0.toNat : Int).toNat 0).length : Int) then
  (loopE (ρ := List Int) (fun ((out02, v1) : List Int × Int) =>
  if v1 < (m_1.length : Int) then
  chk ((0 ≤ v1 ∧ v1 < m_1.length)) <|
  chk ((0 ≤ v ∧ v < out02.length)) <|
  (axioms_size_E (iand v (m_1.getD v1.toNat 0))).bindE fun y =>
  chk ((0 ≤ v ∧ v < out02.length)) <|
  some (.inl (out02.set v.toNat (max (out02.getD v.toNat 0) y), v1 + 1))
 else
  some (.inr out02)) (out0, 0)).bindE fun (out03 : List Int) =>
  some (.inl (out03, v + 1))
 else
  some (.inr out0)) (List.replicate (2 ^ m_0.toNat : Int).toNat 0, 0)).bindE fun (out01 : List Int) =>
  some out01

theorem E_axioms_ranks (m_0 : Int) (m_1 : List Int) : Le (axioms_ranks_E m_0 m_1) (axioms_ranks m_0 m_1) := by
  unfold axioms_ranks_E axioms_ranks
  repeat' (first
    | assumption
    | with_reducible exact le_rfl _
    | exact E_axioms_size ..
    | apply le_bind
    | apply le_chk
    | apply le_ite
    | apply le_join
    | apply le_loop
    | dsimp only
    | (intro (x : _ × _); obtain ⟨_, _⟩ := x)
    | (intro (x : _ ⊕ _); cases x)
    | intro _
    | split)

def axioms_Ranks_E (m_0 : Int) (m_1 : List Int) : Option (List Int × Int) :=
  (axioms_Check_E m_0 m_1).bindE fun y =>
  if y ≠ 0 then
  some ([], y)
 else
  (axioms_ranks_E m_0 m_1).bindE fun y1 =>
  some (y1, 0)

theorem E_axioms_Ranks (m_0 : Int) (m_1 : List Int) : Le (axioms_Ranks_E m_0 m_1) (axioms_Ranks m_0 m_1) := by
  unfold axioms_Ranks_E axioms_Ranks
  repeat' (first
    | assumption
    | with_reducible exact le_rfl _
    | exact E_axioms_Check ..
    | exact E_axioms_ranks ..
    | apply le_bind
    | apply le_chk
    | apply le_ite
    | apply le_join
    | apply le_loop
    | dsimp only
    | (intro (x : _ × _); obtain ⟨_, _⟩ := x)
    | (intro (x : _ ⊕ _); cases x)
    | intro _
    | split)

def repr_search_from_E (s_0 : Int) (s_1 : List Int) (s_2 : List Int) (s_3 : Int) (s_4 : Int) (s_5 : List (List Int)) (s_6 : List Int) (s_7 : List Int) (a1 : Int) (a2 : Int) (a3 : Int) : Option (Bool) :=
  if a1 = (s_7.length : Int) then
  some true
 else
  none

theorem E_repr_search_from (s_0 : Int) (s_1 : List Int) (s_2 : List Int) (s_3 : Int) (s_4 : Int) (s_5 : List (List Int)) (s_6 : List Int) (s_7 : List Int) (a1 : Int) (a2 : Int) (a3 : Int) : Le (repr_search_from_E s_0 s_1 s_2 s_3 s_4 s_5 s_6 s_7 a1 a2 a3) (repr_search_from s_0 s_1 s_2 s_3 s_4 s_5 s_6 s_7 a1 a2 a3) := by
  unfold repr_search_from_E repr_search_from
  repeat' (first
    | assumption
    | with_reducible exact le_rfl _
    | exact le_rfl _
    | apply le_bind
    | apply le_chk
    | apply le_ite
    | apply le_join
    | apply le_loop
    | dsimp only
    | (intro (x : _ × _); obtain ⟨_, _⟩ := x)
    | (intro (x : _ ⊕ _); cases x)
    | intro _
    | split)

def repr_Represent_E (m_0 : Int) (m_1 : List Int) (a1 : Int) : Option (Int × Int × List (List Int) × Int) :=
  (axioms_Check_E m_0 m_1).bindE fun y =>
  if y ≠ 0 then
  some (0, 0, ([] : List (List Int)), y)
 else
  if (a1 ≠ 2 ∧ a1 ≠ 3) then
  some (0, 0, ([] : List (List Int)), 1)
 else
  (axioms_Ranks_E m_0 m_1).bindE fun y1 =>
  chk ((-9223372036854775808 ≤ ((y1.1.length : Int) - 1 : Int) ∧ ((y1.1.length : Int) - 1 : Int) ≤ 9223372036854775807) ∧ (0 ≤ (y1.1.length : Int) - 1 ∧ (y1.1.length : Int) - 1 < y1.1.length)) <|
  if 6 < y1.1.getD ((y1.1.length : Int) - 1).toNat 0 then
  some (0, 0, ([] : List (List Int)), 2)
 else
  (loopE (ρ := List (List Int) × List Int × List Int) (fun ((v, v1, v2, v3) : List (List Int) × List Int × List Int × Int) =>
  if v3 < m_0 then
  chk (0 < m_1.length ∧ 0 ≤ v3) <|
  if iand ((m_1.getD 0 0) / 2 ^ v3.toNat) 1 = 0 then
  chk (((v2 ++ [v3]).length ≤ 8796093022208)) <|
  chk ((-9223372036854775808 ≤ (v3 + 1 : Int) ∧ (v3 + 1 : Int) ≤ 9223372036854775807)) <|
  some (.inl (v, v1, v2 ++ [v3], v3 + 1))
 else
  chk ((0 ≤ m_0 ∧ m_0 ≤ 1099511627776)) <|
  chk ((0 ≤ v3 ∧ v3 < ((List.replicate m_0.toNat 0).length))) <|
  chk (((v1 ++ [v3]).length ≤ 8796093022208)) <|
  chk (((v ++ [(List.replicate m_0.toNat 0).set v3.toNat 1]).length ≤ 1099511627776)) <|
  chk ((-9223372036854775808 ≤ (v3 + 1 : Int) ∧ (v3 + 1 : Int) ≤ 9223372036854775807)) <|
  some (.inl (v ++ [(List.replicate m_0.toNat 0).set v3.toNat 1], v1 ++ [v3], v2, v3 + 1))
 else
  some (.inr (v, v1, v2))) (([] : List (List Int)), [], [], 0)).bindE fun ((v4, v5, v6) : List (List Int) × List Int × List Int) =>
  chk (0 < m_1.length) <|
  (repr_search_from_E m_0 m_1 y1.1 a1 m_0 v4 v5 v6 0 0 (m_1.getD 0 0)).bindE fun y2 =>
  if ¬ (y2 = true) then
  some (0, 0, ([] : List (List Int)), 5)
 else
  some (a1, m_0, v4, 0)

theorem E_repr_Represent (m_0 : Int) (m_1 : List Int) (a1 : Int) : Le (repr_Represent_E m_0 m_1 a1) (repr_Represent m_0 m_1 a1) := by
  unfold repr_Represent_E repr_Represent
  repeat' (first
    | assumption
    | with_reducible exact le_rfl _
    | exact E_axioms_Check ..
    | exact E_axioms_Ranks ..
    | exact E_repr_search_from ..
    | apply le_bind
    | apply le_chk
    | apply le_ite
    | apply le_join
    | apply le_loop
    | dsimp only
    | (intro (x : _ × _); obtain ⟨_, _⟩ := x)
    | (intro (x : _ ⊕ _); cases x)
    | intro _
    | split)

def sets_Choose_E (n : Int) (k : Int) : Option (List Int × Int) :=
  if (((n < 0 ∨ 8 < n) ∨ k < 0) ∨ n < k) then
  some ([], 1)
 else
  chk ((0 ≤ n ∧ n ≤ 62)) <|
  (loopE (ρ := List Int) (fun ((out0, v) : List Int × Int) =>
  if v < (2 ^ n.toNat : Int) then
  chk ((0 ≤ (v : Int) ∧ (v : Int) ≤ 18446744073709551615)) <|
  (bits_OnesCount v).bindE fun y =>
  if y = k then
  chk (((out0 ++ [v]).length ≤ 8796093022208)) <|
  some (.inl (out0 ++ [v], v + 1))
 else
  some (.inl (out0, v + 1))
 else
  some (.inr out0)) ([], 0)).bindE fun (out01 : List Int) =>
  some (out01, 0)

theorem E_sets_Choose (n : Int) (k : Int) : Le (sets_Choose_E n k) (sets_Choose n k) := by
  unfold sets_Choose_E sets_Choose
  repeat' (first
    | assumption
    | with_reducible exact le_rfl _
    | exact le_rfl _
    | apply le_bind
    | apply le_chk
    | apply le_ite
    | apply le_join
    | apply le_loop
    | dsimp only
    | (intro (x : _ × _); obtain ⟨_, _⟩ := x)
    | (intro (x : _ ⊕ _); cases x)
    | intro _
    | split)

def kinds_Uniform_E (rank : Int) (n : Int) : Option (Int × List Int × Int) :=
  (sets_Choose_E n rank).bindE fun y =>
  if y.2 ≠ 0 then
  some (0, [], y.2)
 else
  some (n, y.1, 0)

theorem E_kinds_Uniform (rank : Int) (n : Int) : Le (kinds_Uniform_E rank n) (kinds_Uniform rank n) := by
  unfold kinds_Uniform_E kinds_Uniform
  repeat' (first
    | assumption
    | with_reducible exact le_rfl _
    | exact E_sets_Choose ..
    | apply le_bind
    | apply le_chk
    | apply le_ite
    | apply le_join
    | apply le_loop
    | dsimp only
    | (intro (x : _ × _); obtain ⟨_, _⟩ := x)
    | (intro (x : _ ⊕ _); cases x)
    | intro _
    | split)

end Go.SH
