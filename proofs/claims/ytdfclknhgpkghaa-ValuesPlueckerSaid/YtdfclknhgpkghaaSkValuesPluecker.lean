/-
  Functions of the program as plain functions: rotakeep_ValuesPluecker. By a program of mine (shal.py). Conditions: none.
-/
import Derived.Test.YtdfclknhgpkghaaAxN
import Derived.Test.YtdfclknhgpkghaaSprotakeep
import Derived.Test.YtdfclknhgpkghaaSprotaref
import Derived.Test.YtdfclknhgpkghaaSpvalues
set_option linter.unusedVariables false
set_option linter.unusedSimpArgs false
namespace Go.SH
open Go Go.AX

noncomputable def rotakeep_ValuesPluecker (n : Int) (a1 : List (Int × Int)) : Option (Bool) :=
  (values_Best 2 [(1, 0), (2, 5)] [1, 1]).bind fun y =>
  if ((y.2.2 ≠ 0 ∨ y.1 ≠ 2) ∨ y.2.1 ≠ 6) then
  some false
 else
  (values_Check n a1).bind fun y1 =>
  if y1 ≠ 0 then
  some true
 else
  chk ((0 ≤ n ∧ n ≤ 62)) <|
  (loopM (ρ := Unit ⊕ Bool) (fun (v : Int) =>
  if v < (2 ^ n.toNat : Int) then
  (rotaref_Size v).bind fun y2 =>
  chk ((-9223372036854775808 ≤ (y2 + 2 : Int) ∧ (y2 + 2 : Int) ≤ 9223372036854775807) ∧ 0 < a1.length) <|
  (rotaref_Size ((a1.getD 0 (0, 0)).1)).bind fun y3 =>
  if y2 + 2 ≠ y3 then
  some (.inl (v + 1))
 else
  chk ((0 ≤ n ∧ n ≤ 62)) <|
  (loopM (ρ := Unit ⊕ Bool) (fun (v1 : Int) =>
  if v1 < (2 ^ n.toNat : Int) then
  (rotaref_Size v1).bind fun y4 =>
  if (y4 ≠ 4 ∨ iand v1 v ≠ 0) then
  some (.inl (v1 + 1))
 else
  (rotaref_Elements v1).bind fun y5 =>
  (loopM (ρ := Int) (fun ((v2, v3, v4) : Int × Int × Int) =>
  if v4 < 4 then
  chk ((0 ≤ 0 ∧ 0 < y5.length) ∧ (0 ≤ y5.getD 0 0 ∧ y5.getD 0 0 ≤ 62) ∧ (0 ≤ v4 ∧ v4 < y5.length) ∧ (0 ≤ y5.getD v4.toNat 0 ∧ y5.getD v4.toNat 0 ≤ 62)) <|
  (rotakeep_ValuesPluecker_1 (ior v (ior (2 ^ (y5.getD 0 0).toNat : Int) (2 ^ (y5.getD v4.toNat 0).toNat : Int))) a1).bind fun y6 =>
  (rotakeep_ValuesPluecker_1 (ior v (iandnot v1 (ior (2 ^ (y5.getD 0 0).toNat : Int) (2 ^ (y5.getD v4.toNat 0).toNat : Int)))) a1).bind fun y7 =>
  if (¬ (y6.2 = true) ∨ ¬ (y7.2 = true)) then
  some (.inl (v2, v3, v4 + 1))
 else
  chk (((¬ (v3 = 0)) → (-9223372036854775808 ≤ (y6.1 + y7.1 : Int) ∧ (y6.1 + y7.1 : Int) ≤ 9223372036854775807))) <|
  if (v3 = 0 ∨ v2 < y6.1 + y7.1) then
  chk ((-9223372036854775808 ≤ (y6.1 + y7.1 : Int) ∧ (y6.1 + y7.1 : Int) ≤ 9223372036854775807)) <|
  some (.inl (y6.1 + y7.1, 1, v4 + 1))
 else
  chk ((-9223372036854775808 ≤ (y6.1 + y7.1 : Int) ∧ (y6.1 + y7.1 : Int) ≤ 9223372036854775807)) <|
  if y6.1 + y7.1 = v2 then
  chk ((-9223372036854775808 ≤ (v3 + 1 : Int) ∧ (v3 + 1 : Int) ≤ 9223372036854775807)) <|
  some (.inl (v2, v3 + 1, v4 + 1))
 else
  some (.inl (v2, v3, v4 + 1))
 else
  some (.inr v3)) (0, 0, 1)).bind fun (v5 : Int) =>
  if v5 = 1 then
  some (.inr (.inr false))
 else
  some (.inl (v1 + 1))
 else
  some (.inr (.inl ()))) 0).bind fun z => match z with
  | .inl _ => (some (.inl (v + 1)))
  | .inr rr => some (.inr (.inr rr))
 else
  some (.inr (.inl ()))) 0).bind fun z => match z with
  | .inl _ => (some true)
  | .inr rr => some rr

end Go.SH
