/-
  Functions of the program as plain functions: rotaref_All, rotaref_IsSet, rotaref_In, rotaref_Elements, rotaref_Weighs, rotaref_Size, rotaref_Image, rotaref_Pick, rotaref_Has, rotaref_Shadow_1, rotaref_Those, rotaref_Shadow, rotaref_Within. By a program of mine (shal.py). Conditions: none.
-/
import Derived.Test.YtcjhpcbipcdhiaaAxN
import Derived.Test.YtcjhpcbipcdhiaaSpslices
set_option linter.unusedVariables false
set_option linter.unusedSimpArgs false
namespace Go.SH
open Go Go.AX

noncomputable def rotaref_All (n : Int) : Option (Int) :=
  chk ((0 ≤ n ∧ n ≤ 62) ∧ (-9223372036854775808 ≤ ((2 ^ n.toNat : Int) - 1 : Int) ∧ ((2 ^ n.toNat : Int) - 1 : Int) ≤ 9223372036854775807)) <|
  some ((2 ^ n.toNat : Int) - 1)

noncomputable def rotaref_IsSet (n : Int) (s : Int) : Option (Bool) :=
  (if ((0 ≤ n ∧ n ≤ 8) ∧ 0 ≤ s) then rotaref_All n else some 0).bind fun y =>
  some (decide ((((0 ≤ n ∧ n ≤ 8) ∧ 0 ≤ s) ∧ s ≤ y)))

noncomputable def rotaref_In (s : Int) (i : Int) : Option (Bool) :=
  chk (0 ≤ i) <|
  some (decide (Int.tmod (s / 2 ^ i.toNat) 2 = 1))

noncomputable def rotaref_Elements (s : Int) : Option (List Int) :=
  (loopM (ρ := List Int) (fun ((out0, i) : List Int × Int) =>
  if i < 8 then
  (rotaref_In s i).bind fun y =>
  if y = true then
  chk (((out0 ++ [i]).length ≤ 8796093022208)) <|
  some (.inl (out0 ++ [i], i + 1))
 else
  some (.inl (out0, i + 1))
 else
  some (.inr out0)) ([], 0)).bind fun (out01 : List Int) =>
  some out01

noncomputable def rotaref_Weighs (w : List Int) (s : Int) : Option (Int) :=
  (rotaref_Elements s).bind fun y =>
  (loopM (ρ := Int) (fun ((n, i) : Int × Int) =>
  if i < (y.length : Int) then
  chk ((0 ≤ i ∧ i < y.length) ∧ (0 ≤ y.getD i.toNat 0 ∧ y.getD i.toNat 0 < w.length) ∧ (-9223372036854775808 ≤ (n + (w.getD (y.getD i.toNat 0).toNat 0) : Int) ∧ (n + (w.getD (y.getD i.toNat 0).toNat 0) : Int) ≤ 9223372036854775807)) <|
  some (.inl (n + (w.getD (y.getD i.toNat 0).toNat 0), i + 1))
 else
  some (.inr n)) (0, 0)).bind fun (n1 : Int) =>
  some n1

noncomputable def rotaref_Size (s : Int) : Option (Int) :=
  (rotaref_Elements s).bind fun y =>
  some (y.length : Int)

noncomputable def rotaref_Image (p : List Int) (s : Int) : Option (Int) :=
  (rotaref_Elements s).bind fun y =>
  (loopM (ρ := Int) (fun ((out0, i) : Int × Int) =>
  if i < (y.length : Int) then
  chk ((0 ≤ i ∧ i < y.length) ∧ (0 ≤ y.getD i.toNat 0 ∧ y.getD i.toNat 0 < p.length) ∧ (0 ≤ p.getD (y.getD i.toNat 0).toNat 0 ∧ p.getD (y.getD i.toNat 0).toNat 0 ≤ 62)) <|
  some (.inl (ior out0 (2 ^ (p.getD (y.getD i.toNat 0).toNat 0).toNat : Int), i + 1))
 else
  some (.inr out0)) (0, 0)).bind fun (out01 : Int) =>
  some out01

noncomputable def rotaref_Pick (k : Int) (n : Int) : Option (Int) :=
  if k < 0 then
  chk ((-9223372036854775808 ≤ (-(k + 1) : Int) ∧ (-(k + 1) : Int) ≤ 9223372036854775807)) <|
  chk (n ≠ 0) <|
  some (Int.tmod (-(k + 1)) n)
 else
  chk (n ≠ 0) <|
  some (Int.tmod k n)

noncomputable def rotaref_Has (l : List Int) (s : Int) : Option (Bool) :=
  (slices_Contains_int_int l s).bind fun y =>
  some y

noncomputable def rotaref_Shadow_1 (s : Int) (c0 : Int) (c1 : List Int) : Option (Bool) :=
  (loopM (ρ := Unit ⊕ Bool) (fun (i : Int) =>
  if i < c0 then
  (rotaref_In s i).bind fun y =>
  chk (((¬ (y = true)) → (0 ≤ i ∧ i ≤ 62)) ∧ ((¬ (y = true)) → (-9223372036854775808 ≤ (s + (2 ^ i.toNat : Int) : Int) ∧ (s + (2 ^ i.toNat : Int) : Int) ≤ 9223372036854775807))) <|
  (if ¬ (y = true) then rotaref_Has c1 (s + (2 ^ i.toNat : Int)) else some false).bind fun y1 =>
  if (¬ (y = true) ∧ y1 = true) then
  some (.inr (.inr true))
 else
  some (.inl (i + 1))
 else
  some (.inr (.inl ()))) 0).bind fun z => match z with
  | .inl _ => (some false)
  | .inr rr => some rr

noncomputable def rotaref_Those (n : Int) (kind : Int → Option (Bool)) : Option (List Int) :=
  (loopM (ρ := List Int) (fun ((out0, s) : List Int × Int) =>
  (rotaref_All n).bind fun y =>
  if s ≤ y then
  (kind s).bind fun y1 =>
  if y1 = true then
  chk (((out0 ++ [s]).length ≤ 8796093022208)) <|
  chk ((-9223372036854775808 ≤ (s + 1 : Int) ∧ (s + 1 : Int) ≤ 9223372036854775807)) <|
  some (.inl (out0 ++ [s], s + 1))
 else
  chk ((-9223372036854775808 ≤ (s + 1 : Int) ∧ (s + 1 : Int) ≤ 9223372036854775807)) <|
  some (.inl (out0, s + 1))
 else
  some (.inr out0)) ([], 0)).bind fun (out01 : List Int) =>
  some out01

noncomputable def rotaref_Shadow (n : Int) (l : List Int) : Option (List Int) :=
  (rotaref_Those n (fun x0 => rotaref_Shadow_1 x0 n l)).bind fun y =>
  some y

noncomputable def rotaref_Within (a : Int) (b : Int) : Option (Bool) :=
  some (decide (ior a b = b))

end Go.SH
