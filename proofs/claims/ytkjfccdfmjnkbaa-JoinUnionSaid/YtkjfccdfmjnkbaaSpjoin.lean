/-
  Functions of the program as plain functions: join_size, join_Union, join_ranks. By a program of mine (shal.py). Conditions: none.
-/
import Derived.Test.YtkjfccdfmjnkbaaAxN
import Derived.Test.YtkjfccdfmjnkbaaAxP
import Derived.Test.YtkjfccdfmjnkbaaSpaxioms
import Derived.Test.YtkjfccdfmjnkbaaSpbits
set_option linter.unusedVariables false
set_option linter.unusedSimpArgs false
namespace Go.SH
open Go Go.AX

noncomputable def join_size (s : Int) : Option (Int) :=
  chk ((0 ≤ (s : Int) ∧ (s : Int) ≤ 18446744073709551615)) <|
  (bits_OnesCount s).bind fun y =>
  some y

noncomputable def join_Union (a_0 : Int) (a_1 : List Int) (a1_0 : Int) (a1_1 : List Int) : Option (Int × List Int × Int) :=
  (axioms_Check a_0 a_1).bind fun y =>
  (axioms_Check a1_0 a1_1).bind fun y1 =>
  if y ≠ 0 then
  some (0, [], y)
 else
  if y1 ≠ 0 then
  some (0, [], y1)
 else
  if a_0 ≠ a1_0 then
  some (0, [], 3)
 else
  (loopM (ρ := List Int) (fun ((v, v1, v2) : Int × List Int × Int) =>
  if v2 < (a_1.length : Int) then
  chk ((0 ≤ v2 ∧ v2 < a_1.length)) <|
  (loopM (ρ := Int × List Int) (fun ((v4, v5, v6) : Int × List Int × Int) =>
  if v6 < (a1_1.length : Int) then
  chk ((0 ≤ v6 ∧ v6 < a1_1.length)) <|
  joinM (fun ((v9, v10) : Int × List Int) =>
  (join_size (ior (a_1.getD v2.toNat 0) (a1_1.getD v6.toNat 0))).bind fun y3 =>
  if y3 = v9 then
  chk (((v10 ++ [ior (a_1.getD v2.toNat 0) (a1_1.getD v6.toNat 0)]).length ≤ 8796093022208)) <|
  some (.inl (v9, v10 ++ [ior (a_1.getD v2.toNat 0) (a1_1.getD v6.toNat 0)], v6 + 1))
 else
  some (.inl (v9, v10, v6 + 1))) fun j =>
  (join_size (ior (a_1.getD v2.toNat 0) (a1_1.getD v6.toNat 0))).bind fun y2 =>
  if v4 < y2 then
  j (y2, [])
 else
  j (v4, v5)
 else
  some (.inr (v4, v5))) (v, v1, 0)).bind fun ((v7, v8) : Int × List Int) =>
  some (.inl (v7, v8, v2 + 1))
 else
  some (.inr v1)) (0, [], 0)).bind fun (v3 : List Int) =>
  chk ((v3.length < 4611686018427387904)) <|
  chk (((uniqL (sortL v3)).length ≤ 8796093022208)) <|
  some (a_0, uniqL (sortL v3), 0)

noncomputable def join_ranks (m_0 : Int) (m_1 : List Int) : Option (List Int) :=
  (axioms_Ranks m_0 m_1).bind fun y =>
  some y.1

end Go.SH
