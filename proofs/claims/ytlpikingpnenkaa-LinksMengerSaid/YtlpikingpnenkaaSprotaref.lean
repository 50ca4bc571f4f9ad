/-
  Functions of the program as plain functions: rotaref_In, rotaref_Elements, rotaref_Size, rotaref_Paths. By a program of mine (shal.py). Conditions: none.
-/
import Derived.Test.YtlpikingpnenkaaAxN
set_option linter.unusedVariables false
set_option linter.unusedSimpArgs false
namespace Go.SH
open Go Go.AX

noncomputable def rotaref_In (s : Int) (i : Int) : Option (Bool) :=
  chk (0 ≤ i) <|
  some (decide (Int.tmod (s / 2 ^ i.toNat) 2 = 1))

noncomputable def rotaref_Elements (s : Int) : Option (List Int) :=
  (loopM (ρ := List Int) (fun ((out0, i) : List Int × Int) =>
  if i < 8 then
  (rotaref_In s i).bind fun y =>
  if y = true then
  chk (((out0 ++ [i]).length ≤ 8796093022208)) <|
  some (.inl (out0 ++ [i], i + 1))
 else
  some (.inl (out0, i + 1))
 else
  some (.inr out0)) ([], 0)).bind fun (out01 : List Int) =>
  some out01

noncomputable def rotaref_Size (s : Int) : Option (Int) :=
  (rotaref_Elements s).bind fun y =>
  some (y.length : Int)

noncomputable def rotaref_Paths (g_0 : Int) (g_1 : List (Int × Int)) (from0 : Int) (gone : Int) : Option (Int) :=
  (loopM (ρ := Int) (fun (s : Int) =>
  (loopM (ρ := Int) (fun ((t, i) : Int × Int) =>
  if i < (g_1.length : Int) then
  chk ((0 ≤ i ∧ i < g_1.length)) <|
  (rotaref_In s ((g_1.getD i.toNat (0, 0)).1)).bind fun y =>
  (if y = true then rotaref_In gone ((g_1.getD i.toNat (0, 0)).2) else some false).bind fun y1 =>
  if (y = true ∧ ¬ (y1 = true)) then
  chk ((0 ≤ (g_1.getD i.toNat (0, 0)).2 ∧ (g_1.getD i.toNat (0, 0)).2 ≤ 62)) <|
  chk ((-9223372036854775808 ≤ (i + 1 : Int) ∧ (i + 1 : Int) ≤ 9223372036854775807)) <|
  some (.inl (ior t (2 ^ ((g_1.getD i.toNat (0, 0)).2).toNat : Int), i + 1))
 else
  chk ((-9223372036854775808 ≤ (i + 1 : Int) ∧ (i + 1 : Int) ≤ 9223372036854775807)) <|
  some (.inl (t, i + 1))
 else
  some (.inr t)) (s, 0)).bind fun (t1 : Int) =>
  if t1 = s then
  some (.inr s)
 else
  some (.inl t1)) (iandnot from0 gone)).bind fun (rr : Int) => some rr

end Go.SH
