/-
  Functions of the program as plain functions: meet_both, meet_ranks, meet_size, meet_grown_1, meet_grown, meet_Common. By a program of mine (shal.py). Conditions: none.
-/
import Derived.Test.YtobpcecpfojpmaaDoorAxN
import Derived.Test.YtobpcecpfojpmaaDoorSpaxioms
import Derived.Test.YtobpcecpfojpmaaDoorSpbits
set_option linter.unusedVariables false
set_option linter.unusedSimpArgs false
namespace Go.SH
open Go Go.AX

noncomputable def meet_both (a_0 : Int) (a_1 : List Int) (b_0 : Int) (b_1 : List Int) : Option (Int) :=
  (axioms_Check a_0 a_1).bind fun y =>
  (axioms_Check b_0 b_1).bind fun y1 =>
  if y ≠ 0 then
  some y
 else
  if y1 ≠ 0 then
  some y1
 else
  if a_0 ≠ b_0 then
  some 3
 else
  some 0

noncomputable def meet_ranks (m_0 : Int) (m_1 : List Int) : Option (List Int) :=
  (axioms_Ranks m_0 m_1).bind fun y =>
  some y.1

noncomputable def meet_size (s : Int) : Option (Int) :=
  chk ((0 ≤ (s : Int) ∧ (s : Int) ≤ 18446744073709551615)) <|
  (bits_OnesCount s).bind fun y =>
  some y

noncomputable def meet_grown_1 (r1 : List Int) (t : Int) : Option (Bool) :=
  chk ((0 ≤ t ∧ t < r1.length)) <|
  (meet_size t).bind fun y =>
  some (decide (r1.getD t.toNat 0 = y))

noncomputable def meet_grown (x : List Int) (a1 : List Int) (a2 : Int) (a3 : Int) : Option (Int × Int × Bool) :=
  chk ((0 ≤ a2 ∧ a2 ≤ 1099511627776)) <|
  (loopM (ρ := List Int) (fun ((v, v1) : List Int × Int) =>
  if v1 < ((List.replicate a2.toNat 0).length : Int) then
  chk ((0 ≤ v1 ∧ v1 < v.length)) <|
  some (.inl (v.set v1.toNat (-2), v1 + 1))
 else
  some (.inr v)) (List.replicate a2.toNat 0, 0)).bind fun (v2 : List Int) =>
  (loopM (ρ := List Int × List Int) (fun ((v3, v4, v5) : List Int × List Int × Int) =>
  if v5 < a2 then
  chk (0 ≤ v5 ∧ ((iand (a3 / 2 ^ v5.toNat) 1 = 0) → (0 ≤ v5 ∧ v5 ≤ 62))) <|
  if iand (a3 / 2 ^ v5.toNat) 1 = 0 then
  (meet_grown_1 x (ior a3 (2 ^ v5.toNat : Int))).bind fun y =>
  if y = true then
  chk ((0 ≤ v5 ∧ v5 < v3.length)) <|
  chk (((v4 ++ [v5]).length ≤ 8796093022208)) <|
  some (.inl (v3.set v5.toNat (-1), v4 ++ [v5], v5 + 1))
 else
  some (.inl (v3, v4, v5 + 1))
 else
  some (.inl (v3, v4, v5 + 1))
 else
  some (.inr (v3, v4))) (v2, [], 0)).bind fun ((v6, v7) : List Int × List Int) =>
  (loopM (ρ := (List Int) ⊕ (Int × Int × Bool)) (fun ((v8, v9, v10) : List Int × List Int × Int) =>
  if v10 < (v9.length : Int) then
  chk ((0 ≤ v10 ∧ v10 < v9.length)) <|
  chk (0 ≤ v9.getD v10.toNat 0) <|
  joinM (fun (_ : Unit) =>
  (loopM (ρ := List Int × List Int) (fun ((v15, v16, v17) : List Int × List Int × Int) =>
  if v17 < a2 then
  chk ((0 ≤ v17 ∧ v17 < v15.length) ∧ ((¬ (v15.getD v17.toNat 0 ≠ (-2))) → 0 ≤ v17)) <|
  if (v15.getD v17.toNat 0 ≠ (-2) ∨ ¬ (iand (a3 / 2 ^ v17.toNat) 1 = 1 ↔ iand (a3 / 2 ^ (v9.getD v10.toNat 0).toNat) 1 = 0)) then
  some (.inl (v15, v16, v17 + 1))
 else
  chk (((iand (a3 / 2 ^ (v9.getD v10.toNat 0).toNat) 1 = 0) → (0 ≤ v17 ∧ v17 ≤ 62)) ∧ ((iand (a3 / 2 ^ (v9.getD v10.toNat 0).toNat) 1 = 0) → (0 ≤ v9.getD v10.toNat 0 ∧ v9.getD v10.toNat 0 ≤ 62))) <|
  if iand (a3 / 2 ^ (v9.getD v10.toNat 0).toNat) 1 = 0 then
  (meet_grown_1 a1 (ior (iandnot a3 (2 ^ v17.toNat : Int)) (2 ^ (v9.getD v10.toNat 0).toNat : Int))).bind fun y2 =>
  chk ((((¬ (y2 = true)) ∧ ¬ (iand (a3 / 2 ^ (v9.getD v10.toNat 0).toNat) 1 = 0)) → (0 ≤ v9.getD v10.toNat 0 ∧ v9.getD v10.toNat 0 ≤ 62)) ∧ (((¬ (y2 = true)) ∧ ¬ (iand (a3 / 2 ^ (v9.getD v10.toNat 0).toNat) 1 = 0)) → (0 ≤ v17 ∧ v17 ≤ 62))) <|
  if (¬ (y2 = true)) then
  if ¬ (iand (a3 / 2 ^ (v9.getD v10.toNat 0).toNat) 1 = 0) then
  (meet_grown_1 x (ior (iandnot a3 (2 ^ (v9.getD v10.toNat 0).toNat : Int)) (2 ^ v17.toNat : Int))).bind fun y3 =>
  if (y2 = true ∨ y3 = true) then
  chk ((0 ≤ v17 ∧ v17 < v15.length)) <|
  chk (((v16 ++ [v17]).length ≤ 8796093022208)) <|
  some (.inl (v15.set v17.toNat (v9.getD v10.toNat 0), v16 ++ [v17], v17 + 1))
 else
  some (.inl (v15, v16, v17 + 1))
 else
  if (y2 = true ∨ False) then
  chk ((0 ≤ v17 ∧ v17 < v15.length)) <|
  chk (((v16 ++ [v17]).length ≤ 8796093022208)) <|
  some (.inl (v15.set v17.toNat (v9.getD v10.toNat 0), v16 ++ [v17], v17 + 1))
 else
  some (.inl (v15, v16, v17 + 1))
 else
  if (y2 = true ∨ (¬ (iand (a3 / 2 ^ (v9.getD v10.toNat 0).toNat) 1 = 0) ∧ False)) then
  chk ((0 ≤ v17 ∧ v17 < v15.length)) <|
  chk (((v16 ++ [v17]).length ≤ 8796093022208)) <|
  some (.inl (v15.set v17.toNat (v9.getD v10.toNat 0), v16 ++ [v17], v17 + 1))
 else
  some (.inl (v15, v16, v17 + 1))
 else
  chk (((¬ (iand (a3 / 2 ^ (v9.getD v10.toNat 0).toNat) 1 = 0)) → (0 ≤ v9.getD v10.toNat 0 ∧ v9.getD v10.toNat 0 ≤ 62)) ∧ ((¬ (iand (a3 / 2 ^ (v9.getD v10.toNat 0).toNat) 1 = 0)) → (0 ≤ v17 ∧ v17 ≤ 62))) <|
  if ¬ (iand (a3 / 2 ^ (v9.getD v10.toNat 0).toNat) 1 = 0) then
  (meet_grown_1 x (ior (iandnot a3 (2 ^ (v9.getD v10.toNat 0).toNat : Int)) (2 ^ v17.toNat : Int))).bind fun y4 =>
  if y4 = true then
  chk ((0 ≤ v17 ∧ v17 < v15.length)) <|
  chk (((v16 ++ [v17]).length ≤ 8796093022208)) <|
  some (.inl (v15.set v17.toNat (v9.getD v10.toNat 0), v16 ++ [v17], v17 + 1))
 else
  some (.inl (v15, v16, v17 + 1))
 else
  some (.inl (v15, v16, v17 + 1))
 else
  some (.inr (v15, v16))) (v8, v9, 0)).bind fun ((v18, v19) : List Int × List Int) =>
  chk ((-9223372036854775808 ≤ (v10 + 1 : Int) ∧ (v10 + 1 : Int) ≤ 9223372036854775807)) <|
  some (.inl (v18, v19, v10 + 1))) fun j =>
  chk (((iand (a3 / 2 ^ (v9.getD v10.toNat 0).toNat) 1 = 0) → (0 ≤ v9.getD v10.toNat 0 ∧ v9.getD v10.toNat 0 ≤ 62))) <|
  if iand (a3 / 2 ^ (v9.getD v10.toNat 0).toNat) 1 = 0 then
  (meet_grown_1 a1 (ior a3 (2 ^ (v9.getD v10.toNat 0).toNat : Int))).bind fun y1 =>
  if y1 = true then
  (loopM (ρ := Int) (fun ((v12, v13) : Int × Int) =>
  if 0 ≤ v13 then
  chk ((0 ≤ v13 ∧ v13 ≤ 62)) <|
  chk ((0 ≤ v13 ∧ v13 < v8.length)) <|
  some (.inl (ixor v12 (2 ^ v13.toNat : Int), v8.getD v13.toNat 0))
 else
  some (.inr v12)) (a3, v9.getD v10.toNat 0)).bind fun (v14 : Int) =>
  some (.inr (.inr (v14, 0, true)))
 else
  j ()
 else
  j ()
 else
  some (.inr (.inl v8))) (v6, v7, 0)).bind fun z => match z with
  | .inl v11 => ((loopM (ρ := Int) (fun ((v20, v21) : Int × Int) =>
  if v21 < a2 then
  chk ((0 ≤ v21 ∧ v21 < v11.length)) <|
  if v11.getD v21.toNat 0 = (-2) then
  chk ((0 ≤ v21 ∧ v21 ≤ 62)) <|
  some (.inl (ior v20 (2 ^ v21.toNat : Int), v21 + 1))
 else
  some (.inl (v20, v21 + 1))
 else
  some (.inr v20)) (0, 0)).bind fun (v22 : Int) =>
  some (a3, v22, false))
  | .inr rr => some rr

noncomputable def meet_Common (a_0 : Int) (a_1 : List Int) (a1_0 : Int) (a1_1 : List Int) : Option (Int × Int × Int) :=
  (meet_both a_0 a_1 a1_0 a1_1).bind fun y =>
  if y ≠ 0 then
  some (0, 0, y)
 else
  (meet_ranks a_0 a_1).bind fun y1 =>
  (meet_ranks a1_0 a1_1).bind fun y2 =>
  (loopM (ρ := Int) (fun ((v, v1) : Int × Bool) =>
  if v1 = true then
  (meet_grown y1 y2 a_0 v).bind fun y3 =>
  some (.inl (y3.1, y3.2.2))
 else
  some (.inr v)) (0, true)).bind fun (v2 : Int) =>
  (meet_size v2).bind fun y4 =>
  (loopM (ρ := Int) (fun (v3 : Int) =>
  if v3 < (y1.length : Int) then
  (meet_size v3).bind fun y5 =>
  chk (((y5 = y4) → (0 ≤ v3 ∧ v3 < y1.length)) ∧ ((y5 = y4 ∧ y1.getD v3.toNat 0 = y4) → (0 ≤ v3 ∧ v3 < y2.length))) <|
  if ((y5 = y4 ∧ y1.getD v3.toNat 0 = y4) ∧ y2.getD v3.toNat 0 = y4) then
  some (.inr v3)
 else
  some (.inl (v3 + 1))
 else
  some (.inr 0)) 0).bind fun (v4 : Int) =>
  (loopM (ρ := Int) (fun (v5 : Int) =>
  if v5 < (y1.length : Int) then
  chk ((0 ≤ v5 ∧ v5 < y1.length) ∧ (-9223372036854775808 ≤ ((y2.length : Int) - 1 : Int) ∧ ((y2.length : Int) - 1 : Int) ≤ 9223372036854775807) ∧ (0 ≤ iandnot ((y2.length : Int) - 1) v5 ∧ iandnot ((y2.length : Int) - 1) v5 < y2.length) ∧ (-9223372036854775808 ≤ ((y1.getD v5.toNat 0) + (y2.getD (iandnot ((y2.length : Int) - 1) v5).toNat 0) : Int) ∧ ((y1.getD v5.toNat 0) + (y2.getD (iandnot ((y2.length : Int) - 1) v5).toNat 0) : Int) ≤ 9223372036854775807)) <|
  if (y1.getD v5.toNat 0) + (y2.getD (iandnot ((y2.length : Int) - 1) v5).toNat 0) = y4 then
  some (.inr v5)
 else
  some (.inl (v5 + 1))
 else
  some (.inr 0)) 0).bind fun (v6 : Int) =>
  some (v4, v6, 0)

end Go.SH
