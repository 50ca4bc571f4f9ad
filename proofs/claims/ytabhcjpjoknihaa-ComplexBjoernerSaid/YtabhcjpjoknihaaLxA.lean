/-
  The comparison that complex.Lexical hands to SortFunc: it reads and answers. Conditions: none.
-/
import Derived.Test.YtabhcjpjoknihaaAxSf
import Derived.Test.YtabhcjpjoknihaaShelfF
import Derived.Test.YtabhcjpjoknihaaSp
import Derived.Test.YtabhcjpjoknihaaWpcomplexl
import Derived.Lib.Meet
import Derived.WalkKit
import Derived.Deep.QuietTactic
set_option linter.unusedSimpArgs false
set_option linter.unusedVariables false
namespace Go.Proofs
open Go.Shelf Go.RowKit Go.Lib Go.Sort

def Try.lexB (x y : Int) : Int := if (bits BinOp.xor IntKind.i64 x y == 0) = true then 0 else if (bits BinOp.and IntKind.i64 x (bits BinOp.and IntKind.i64 (bits BinOp.xor IntKind.i64 x y) (wrap64 (-bits BinOp.xor IntKind.i64 x y))) != 0) = true then -1 else 1
set_option maxHeartbeats 4000000 in
theorem Try.lex136 (x y : Int) (W : World) : Calls Try.prog 136 #[.int .i64 x, .int .i64 y] W fun e w' => e = .returned (.int .i64 (Try.lexB x y)) ∧ w' = W := by
  go_enter Try.func136, Try.ntmps136
  go_wp2
  · go_ret
    rename_i h
    unfold Try.lexB
    rw [if_pos h]
    exact ⟨rfl, rfl⟩
  · go_ret
    rename_i h1 h2
    unfold Try.lexB
    rw [if_neg (by rw [h1]; simp), if_pos h2]
    exact ⟨rfl, rfl⟩
  · go_wp2
    go_ret
    rename_i h1 h2
    unfold Try.lexB
    rw [if_neg (by rw [h1]; simp), if_neg (by rw [h2]; simp)]
    exact ⟨rfl, rfl⟩
end Go.Proofs
namespace Go.SH
open Go Go.AX Go.AX.Try Go.Proofs
theorem PC_complex_Lexical_1 : PureC Try.prog 136 (fun x0 x1 => complex_Lexical_1 x0 x1) := by
  intro x y r W hx0 hx1 hy0 hy1 h
  have hp := W_complex_Lexical_1 h W (fun _ => none) #[.int .i64 x, .int .i64 y] ⟨(by intro b o h; cases h), trivial⟩ rfl (fun i z u hz hu => by
    match i, hz, hu with
    | 0, hz, hu =>
      have e1 : z = .int .i64 x := by simpa using hz.symm
      have e2 : u = Value.int .i64 x := by simpa using hu.symm
      subst e1 e2
      exact .int _ _ (by simp [lo]; omega) (by simp [hi]; omega)
    | 1, hz, hu =>
      have e1 : z = .int .i64 y := by simpa using hz.symm
      have e2 : u = Value.int .i64 y := by simpa using hu.symm
      subst e1 e2
      exact .int _ _ (by simp [lo]; omega) (by simp [hi]; omega)
    | i + 2, hz, hu => simp at hz)
  obtain ⟨u, w', q1, q2⟩ := Go.Lib.meet (Q₁ := fun u _ => u = .int .i64 r) (Q₂ := fun u _ => u = .int .i64 (Go.Proofs.Try.lexB x y)) (by kernel_rfl) (hp.mono fun e w' ⟨u, F', φ', he, _, _, hr, _⟩ => ⟨u, he, (int_inv hr).1⟩) ((Go.Proofs.Try.lex136 x y W).mono fun e w' ⟨he, _⟩ => ⟨_, he, rfl⟩)
  rw [q1] at q2
  injection q2 with _ q2
  rw [q2]
  exact (Go.Proofs.Try.lex136 x y W).mono fun e w' ⟨he, hw⟩ => ⟨he, 0, by rw [hw]; rfl⟩
end Go.SH
