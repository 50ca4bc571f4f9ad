/-
  Functions of the program as plain functions: rotakeep_ConvexLines. By a program of mine (shal.py). Conditions: none.
-/
import Derived.Test.YtobpcecpfojpmaaDoorAxN
import Derived.Test.YtobpcecpfojpmaaDoorSpconvex
import Derived.Test.YtobpcecpfojpmaaDoorSprotaref
set_option linter.unusedVariables false
set_option linter.unusedSimpArgs false
namespace Go.SH
open Go Go.AX

noncomputable def rotakeep_ConvexLines (k : Int) : Option (Bool) :=
  (rotaref_Pick k 8).bind fun y =>
  chk ((-9223372036854775808 ≤ (1 + y : Int) ∧ (1 + y : Int) ≤ 9223372036854775807)) <|
  (convex_Line (1 + y)).bind fun y1 =>
  (convex_Orders (1 + y) y1.1).bind fun y2 =>
  chk ((-9223372036854775808 ≤ ((1 + y) - 1 : Int) ∧ ((1 + y) - 1 : Int) ≤ 9223372036854775807) ∧ (0 ≤ (1 + y) - 1 ∧ (1 + y) - 1 ≤ 62)) <|
  (convex_Hull (1 + y) y1.1 (ior 1 (2 ^ ((1 + y) - 1).toNat : Int))).bind fun y3 =>
  chk ((((y1.2 = 0 ∧ y2.2 = 0) ∧ y3.2 = 0) → (-9223372036854775808 ≤ ((1 + y) - 1 : Int) ∧ ((1 + y) - 1 : Int) ≤ 9223372036854775807)) ∧ (((y1.2 = 0 ∧ y2.2 = 0) ∧ y3.2 = 0) → (0 ≤ (1 + y) - 1 ∧ (1 + y) - 1 ≤ 62))) <|
  (if (((y1.2 = 0 ∧ y2.2 = 0) ∧ y3.2 = 0) ∧ y2.1 = (2 ^ ((1 + y) - 1).toNat : Int)) then rotaref_All (1 + y) else some 0).bind fun y4 =>
  chk ((((((y1.2 = 0 ∧ y2.2 = 0) ∧ y3.2 = 0) ∧ y2.1 = (2 ^ ((1 + y) - 1).toNat : Int)) ∧ y3.1 = y4) → (-9223372036854775808 ≤ ((1 + y) + 1 : Int) ∧ ((1 + y) + 1 : Int) ≤ 9223372036854775807)) ∧ (((((y1.2 = 0 ∧ y2.2 = 0) ∧ y3.2 = 0) ∧ y2.1 = (2 ^ ((1 + y) - 1).toNat : Int)) ∧ y3.1 = y4) → (-9223372036854775808 ≤ ((1 + y) * ((1 + y) + 1) : Int) ∧ ((1 + y) * ((1 + y) + 1) : Int) ≤ 9223372036854775807)) ∧ (((((y1.2 = 0 ∧ y2.2 = 0) ∧ y3.2 = 0) ∧ y2.1 = (2 ^ ((1 + y) - 1).toNat : Int)) ∧ y3.1 = y4) → (-9223372036854775808 ≤ (Int.tdiv ((1 + y) * ((1 + y) + 1)) 2 : Int) ∧ (Int.tdiv ((1 + y) * ((1 + y) + 1)) 2 : Int) ≤ 9223372036854775807)) ∧ (((((y1.2 = 0 ∧ y2.2 = 0) ∧ y3.2 = 0) ∧ y2.1 = (2 ^ ((1 + y) - 1).toNat : Int)) ∧ y3.1 = y4) → (-9223372036854775808 ≤ ((Int.tdiv ((1 + y) * ((1 + y) + 1)) 2) + 1 : Int) ∧ ((Int.tdiv ((1 + y) * ((1 + y) + 1)) 2) + 1 : Int) ≤ 9223372036854775807))) <|
  some (decide ((((((y1.2 = 0 ∧ y2.2 = 0) ∧ y3.2 = 0) ∧ y2.1 = (2 ^ ((1 + y) - 1).toNat : Int)) ∧ y3.1 = y4) ∧ (y1.1.length : Int) = (Int.tdiv ((1 + y) * ((1 + y) + 1)) 2) + 1)))

end Go.SH
