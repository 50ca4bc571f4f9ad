/-
  That the code computes these functions: slices_Contains_api_Edge_api_Edge. By a program of mine (shal.py). Conditions: none.
-/
import Derived.Test.YtlpikingpnenkaaAxT
import Derived.Test.YtlpikingpnenkaaAxR
import Derived.Test.YtlpikingpnenkaaCnE
import Derived.Test.YtlpikingpnenkaaSp
set_option linter.unusedVariables false
set_option linter.unusedSimpArgs false
set_option maxRecDepth 8000
set_option maxHeartbeats 4000000
namespace Go.SH
open Go Go.AX Go.AX.Try Go.Proofs

theorem W_slices_Contains_api_Edge_api_Edge {s : List (Int × Int)} {a b : Int} {r : Bool} (hK : slices_Contains_api_Edge_api_Edge s a b = some r) : Pure Try.prog 27 [.fn 2 s.length (fun i => [.int .i64 ((s.getD i (0, 0)).1), .int .i64 ((s.getD i (0, 0)).2)]), .agg [.int .i64 a, .int .i64 b]] (.bool r) [] := by
  cases hK; exact Try.containsE

end Go.SH
