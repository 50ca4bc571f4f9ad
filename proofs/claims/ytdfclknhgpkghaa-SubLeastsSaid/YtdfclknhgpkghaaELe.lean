/-
  Plain functions of the program, computed. By a program of mine (ev.py). Conditions: none.
-/
import Derived.Test.YtdfclknhgpkghaaEV
import Derived.Test.YtdfclknhgpkghaaSpcmp
import Derived.Test.YtdfclknhgpkghaaSpslices
import Derived.Test.YtdfclknhgpkghaaSpbits
import Derived.Test.YtdfclknhgpkghaaSpsub
set_option linter.unusedVariables false
set_option linter.unusedSimpArgs false
namespace Go.SH
open Go Go.AX

def slices_Min_int_int_E (x : List Int) : Option (Int) :=
  if (x.length : Int) < 1 then
  none
 else
  chk (0 < x.length) <|
  (loopE (ρ := Int) (fun ((m, i) : Int × Int) =>
  if i < (x.length : Int) then
  chk ((0 ≤ i ∧ i < x.length)) <|
  some (.inl (min m (x.getD i.toNat 0), i + 1))
 else
  some (.inr m)) (x.getD 0 0, 1)).bindE fun (m1 : Int) =>
  some m1

theorem E_slices_Min_int_int (x : List Int) : Le (slices_Min_int_int_E x) (slices_Min_int_int x) := by
  unfold slices_Min_int_int_E slices_Min_int_int
  repeat' (first
    | assumption
    | with_reducible exact le_rfl _
    | exact le_rfl _
    | apply le_bind
    | apply le_chk
    | apply le_ite
    | apply le_join
    | apply le_loop
    | dsimp only
    | (intro (x : _ × _); obtain ⟨_, _⟩ := x)
    | (intro (x : _ ⊕ _); cases x)
    | intro _
    | split)

def sub_form_E (n : Int) (f : List Int) : Option (Int) :=
  chk (((¬ ((n < 0 ∨ 8 < n))) → (0 ≤ n ∧ n ≤ 62))) <|
  if ((n < 0 ∨ 8 < n) ∨ (f.length : Int) ≠ (2 ^ n.toNat : Int)) then
  some 1
 else
  (loopE (ρ := Unit ⊕ Int) (fun (v : Int) =>
  if v < (f.length : Int) then
  chk ((0 ≤ v ∧ v < f.length)) <|
  if (f.getD v.toNat 0 < (-1000) ∨ 1000 < f.getD v.toNat 0) then
  some (.inr (.inr 1))
 else
  some (.inl (v + 1))
 else
  some (.inr (.inl ()))) 0).bindE fun z => match z with
  | .inl _ => (chk (0 < f.length) <|
  if f.getD 0 0 ≠ 0 then
  some 1
 else
  some 0)
  | .inr rr => some rr

theorem E_sub_form (n : Int) (f : List Int) : Le (sub_form_E n f) (sub_form n f) := by
  unfold sub_form_E sub_form
  repeat' (first
    | assumption
    | with_reducible exact le_rfl _
    | exact le_rfl _
    | apply le_bind
    | apply le_chk
    | apply le_ite
    | apply le_join
    | apply le_loop
    | dsimp only
    | (intro (x : _ × _); obtain ⟨_, _⟩ := x)
    | (intro (x : _ ⊕ _); cases x)
    | intro _
    | split)

def sub_Check_E (n : Int) (a1 : List Int) : Option (Int) :=
  (sub_form_E n a1).bindE fun y =>
  if y ≠ 0 then
  some y
 else
  (loopE (ρ := Unit ⊕ Int) (fun (v : Int) =>
  if v < (a1.length : Int) then
  (loopE (ρ := Unit ⊕ Int) (fun (v1 : Int) =>
  if v1 < n then
  (loopE (ρ := Unit ⊕ Int) (fun (v2 : Int) =>
  if v2 < v1 then
  chk ((0 ≤ v1 ∧ v1 ≤ 62) ∧ (0 ≤ v2 ∧ v2 ≤ 62)) <|
  chk (((iand v (ior (2 ^ v1.toNat : Int) (2 ^ v2.toNat : Int)) = 0) → (0 ≤ ior v (2 ^ v1.toNat : Int) ∧ ior v (2 ^ v1.toNat : Int) < a1.length)) ∧ ((iand v (ior (2 ^ v1.toNat : Int) (2 ^ v2.toNat : Int)) = 0) → (0 ≤ ior v (2 ^ v2.toNat : Int) ∧ ior v (2 ^ v2.toNat : Int) < a1.length)) ∧ ((iand v (ior (2 ^ v1.toNat : Int) (2 ^ v2.toNat : Int)) = 0) → (-9223372036854775808 ≤ ((a1.getD (ior v (2 ^ v1.toNat : Int)).toNat 0) + (a1.getD (ior v (2 ^ v2.toNat : Int)).toNat 0) : Int) ∧ ((a1.getD (ior v (2 ^ v1.toNat : Int)).toNat 0) + (a1.getD (ior v (2 ^ v2.toNat : Int)).toNat 0) : Int) ≤ 9223372036854775807)) ∧ ((iand v (ior (2 ^ v1.toNat : Int) (2 ^ v2.toNat : Int)) = 0) → (0 ≤ ior (ior v (2 ^ v1.toNat : Int)) (2 ^ v2.toNat : Int) ∧ ior (ior v (2 ^ v1.toNat : Int)) (2 ^ v2.toNat : Int) < a1.length)) ∧ ((iand v (ior (2 ^ v1.toNat : Int) (2 ^ v2.toNat : Int)) = 0) → (0 ≤ v ∧ v < a1.length)) ∧ ((iand v (ior (2 ^ v1.toNat : Int) (2 ^ v2.toNat : Int)) = 0) → (-9223372036854775808 ≤ ((a1.getD (ior (ior v (2 ^ v1.toNat : Int)) (2 ^ v2.toNat : Int)).toNat 0) + (a1.getD v.toNat 0) : Int) ∧ ((a1.getD (ior (ior v (2 ^ v1.toNat : Int)) (2 ^ v2.toNat : Int)).toNat 0) + (a1.getD v.toNat 0) : Int) ≤ 9223372036854775807))) <|
  if (iand v (ior (2 ^ v1.toNat : Int) (2 ^ v2.toNat : Int)) = 0 ∧ (a1.getD (ior v (2 ^ v1.toNat : Int)).toNat 0) + (a1.getD (ior v (2 ^ v2.toNat : Int)).toNat 0) < (a1.getD (ior (ior v (2 ^ v1.toNat : Int)) (2 ^ v2.toNat : Int)).toNat 0) + (a1.getD v.toNat 0)) then
  some (.inr (.inr 3))
 else
  some (.inl (v2 + 1))
 else
  some (.inr (.inl ()))) 0).bindE fun z => match z with
  | .inl _ => (some (.inl (v1 + 1)))
  | .inr rr => some (.inr (.inr rr))
 else
  some (.inr (.inl ()))) 0).bindE fun z => match z with
  | .inl _ => (some (.inl (v + 1)))
  | .inr rr => some (.inr (.inr rr))
 else
  some (.inr (.inl ()))) 0).bindE fun z => match z with
  | .inl _ => (some 0)
  | .inr rr => some rr

theorem E_sub_Check (n : Int) (a1 : List Int) : Le (sub_Check_E n a1) (sub_Check n a1) := by
  unfold sub_Check_E sub_Check
  repeat' (first
    | assumption
    | with_reducible exact le_rfl _
    | exact E_sub_form ..
    | apply le_bind
    | apply le_chk
    | apply le_ite
    | apply le_join
    | apply le_loop
    | dsimp only
    | (intro (x : _ × _); obtain ⟨_, _⟩ := x)
    | (intro (x : _ ⊕ _); cases x)
    | intro _
    | split)

def sub_Least_E (n : Int) (f : List Int) : Option (Int × Int × Int × Int) :=
  (sub_Check_E n f).bindE fun y =>
  if y ≠ 0 then
  some (0, 0, 0, y)
 else
  (slices_Min_int_int_E f).bindE fun y1 =>
  chk ((0 ≤ n ∧ n ≤ 62) ∧ (-9223372036854775808 ≤ ((2 ^ n.toNat : Int) - 1 : Int) ∧ ((2 ^ n.toNat : Int) - 1 : Int) ≤ 9223372036854775807)) <|
  (loopE (ρ := Int × Int) (fun ((low, high, v) : Int × Int × Int) =>
  if v < (f.length : Int) then
  chk ((0 ≤ v ∧ v < f.length)) <|
  if f.getD v.toNat 0 = y1 then
  some (.inl (iand low v, ior high v, v + 1))
 else
  some (.inl (low, high, v + 1))
 else
  some (.inr (low, high))) ((2 ^ n.toNat : Int) - 1, 0, 0)).bindE fun ((low1, high1) : Int × Int) =>
  some (y1, low1, high1, 0)

theorem E_sub_Least (n : Int) (f : List Int) : Le (sub_Least_E n f) (sub_Least n f) := by
  unfold sub_Least_E sub_Least
  repeat' (first
    | assumption
    | with_reducible exact le_rfl _
    | exact E_slices_Min_int_int ..
    | exact E_sub_Check ..
    | apply le_bind
    | apply le_chk
    | apply le_ite
    | apply le_join
    | apply le_loop
    | dsimp only
    | (intro (x : _ × _); obtain ⟨_, _⟩ := x)
    | (intro (x : _ ⊕ _); cases x)
    | intro _
    | split)

end Go.SH
