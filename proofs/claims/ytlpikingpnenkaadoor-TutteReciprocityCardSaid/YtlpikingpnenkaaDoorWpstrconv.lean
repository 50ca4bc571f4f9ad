/-
  That the code computes these functions: strconv_Itoa. By a program of mine (shal.py). Conditions: none.
-/
import Derived.Test.YtlpikingpnenkaaDoorAxT
import Derived.Test.YtlpikingpnenkaaDoorAxR
import Derived.Test.YtlpikingpnenkaaDoorItA
import Derived.Test.YtlpikingpnenkaaDoorSp
set_option linter.unusedVariables false
set_option linter.unusedSimpArgs false
set_option maxRecDepth 8000
set_option maxHeartbeats 4000000
namespace Go.SH
open Go Go.AX Go.AX.Tryd Go.Proofs

theorem W_strconv_Itoa {x : Int} {r : List UInt8} (hK : strconv_Itoa x = some r) : Pure Tryd.prog 14 [.int .i64 x] (.str r) [] := by
  obtain ⟨h, hK⟩ := chk_some hK
  cases hK; exact Tryd.itoaP h.1 h.2

end Go.SH
