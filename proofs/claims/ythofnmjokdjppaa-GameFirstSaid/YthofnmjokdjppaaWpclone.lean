/-
  That the code computes these functions: slices_Clone_api_Edge_api_Edge. By a program of mine (shal.py). Conditions: none.
-/
import Derived.Test.YthofnmjokdjppaaAxT
import Derived.Test.YthofnmjokdjppaaAxR
import Derived.Test.YthofnmjokdjppaaAxCp
import Derived.Test.YthofnmjokdjppaaSpclone
set_option linter.unusedVariables false
set_option linter.unusedSimpArgs false
namespace Go.SH
open Go Go.AX Go.AX.Try Go.Proofs

theorem W_slices_Clone_api_Edge_api_Edge {x r : List (Int × Int)} (hK : slices_Clone_api_Edge_api_Edge x = some r) : Pure Try.prog 29 [.fn 2 x.length (fun i => [.int .i64 ((x.getD i (0, 0)).1), .int .i64 ((x.getD i (0, 0)).2)])] (.own 0 r.length) [(.gen 52 2 (List.map (fun e => [.int .i64 e.1, .int .i64 e.2]) r))] := by
  obtain ⟨h, hK⟩ := chk_some hK
  cases hK; exact Try.clonePairs h

end Go.SH
