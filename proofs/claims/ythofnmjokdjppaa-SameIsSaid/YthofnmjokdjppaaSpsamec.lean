/-
  Functions of the program as plain functions: same_renamed, same_Canon_1, same_Canon. By a program of mine (shal.py). Conditions: none.
-/
import Derived.Test.YthofnmjokdjppaaAxN
import Derived.Test.YthofnmjokdjppaaAxP
import Derived.Test.YthofnmjokdjppaaSpaxioms
import Derived.Test.YthofnmjokdjppaaSpsame
import Derived.Test.YthofnmjokdjppaaSpslices
set_option linter.unusedVariables false
set_option linter.unusedSimpArgs false
namespace Go.SH
open Go Go.AX

noncomputable def same_renamed (m_0 : Int) (m_1 : List Int) (p : List Int) : Option (List Int) :=
  (loopM (ρ := List Int) (fun ((out0, v) : List Int × Int) =>
  if v < (m_1.length : Int) then
  chk ((0 ≤ v ∧ v < m_1.length)) <|
  (same_moved p (m_1.getD v.toNat 0)).bind fun y =>
  chk (((out0 ++ [y]).length ≤ 8796093022208)) <|
  some (.inl (out0 ++ [y], v + 1))
 else
  some (.inr out0)) ([], 0)).bind fun (out01 : List Int) =>
  chk ((out01.length < 4611686018427387904)) <|
  some (sortL out01)

noncomputable def same_Canon_1 : Nat → Int → Int → Int → (List Int) → (List Int) → (List Int) → Option (List Int × List Int)
  | 0, _, _, _, _, _, _ => none
  | fuel + 1, i, used, c0_0, c0_1, q0, q1 =>
  if i = c0_0 then
  joinM (fun (q11 : List Int) =>
  some (q0, q11)) fun j =>
  (same_renamed c0_0 c0_1 q0).bind fun y =>
  (slices_Compare_int_int y q1).bind fun y1 =>
  if y1 < 0 then
  j y
 else
  j q1
 else
  (loopM (ρ := List Int × List Int) (fun ((q01, q12, v) : List Int × List Int × Int) =>
  if v < c0_0 then
  chk (0 ≤ v) <|
  if iand (used / 2 ^ v.toNat) 1 = 0 then
  chk ((0 ≤ i ∧ i < q01.length)) <|
  chk ((-9223372036854775808 ≤ (i + 1 : Int) ∧ (i + 1 : Int) ≤ 9223372036854775807) ∧ (0 ≤ v ∧ v ≤ 62)) <|
  (same_Canon_1 fuel (i + 1) (ior used (2 ^ v.toNat : Int)) c0_0 c0_1 (q01.set i.toNat v) q12).bind fun y2 =>
  some (.inl (y2.1, y2.2, v + 1))
 else
  some (.inl (q01, q12, v + 1))
 else
  some (.inr (q01, q12))) (q0, q1, 0)).bind fun ((q02, q13) : List Int × List Int) =>
  some (q02, q13)

noncomputable def same_Canon (m_0 : Int) (m_1 : List Int) : Option (Int × List Int × Int) :=
  (axioms_Check m_0 m_1).bind fun y =>
  if y ≠ 0 then
  some (0, [], y)
 else
  chk ((m_1.length ≤ 17592186044416)) <|
  chk ((0 ≤ m_0 ∧ m_0 ≤ 1099511627776)) <|
  (same_Canon_1 12 0 0 m_0 m_1 (List.replicate m_0.toNat 0) m_1).bind fun y1 =>
  some (m_0, y1.2, 0)

end Go.SH
