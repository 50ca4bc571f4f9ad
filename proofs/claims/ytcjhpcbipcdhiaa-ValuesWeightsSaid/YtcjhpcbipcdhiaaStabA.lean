/-
  The library's stable sort at fewer than twenty integers, walked; two comparisons of the program's. Conditions: none.
-/
import Derived.Test.YtcjhpcbipcdhiaaShelfS
import Derived.WalkKit
import Derived.Deep.QuietTactic
set_option linter.unusedSimpArgs false
set_option linter.unusedVariables false
namespace Go.Proofs
open Go.Shelf Go.RowKit Go.Lib Go.Sort

set_option maxHeartbeats 2000000 in
theorem Try.ins_none (p : Option Addr) (cap : Nat) (fv : Value) (w : World) :
    Calls Try.prog 165 #[.slice p 0 cap, .int .i64 0, .int .i64 0, fv] w fun e w' => e = .returned (.tuple #[]) ∧ w' = w := by
  go_enter Try.func165, Try.ntmps165
  go_wp2
  refine wp_loop_rounds 1 ?_
  rw [rounds_succ]
  go_wp2
  go_end0
  exact ⟨rfl, rfl⟩
set_option maxHeartbeats 2000000 in
theorem Try.stable_none (p : Option Addr) (cap : Nat) (fv : Value) (w : World) :
    Calls Try.prog 138 #[.slice p 0 cap, .int .i64 0, fv] w fun e w' => e = .returned (.tuple #[]) ∧ w' = w := by
  have hi := fun W => Try.ins_none p cap fv W
  go_enter Try.func138, Try.ntmps138
  go_wp2
  refine wp_loop_rounds 1 ?_
  rw [rounds_succ]
  go_wp2_with (go_at_call 165; refine (hi _).mono ?_; rintro e w' ⟨rfl, rfl⟩)
  refine wp_loop_rounds 1 ?_
  rw [rounds_succ]
  go_wp2
  go_end0
  exact ⟨rfl, rfl⟩
set_option maxHeartbeats 2000000 in
theorem Try.sort_none (p : Option Addr) (cap : Nat) (fv : Value) (w : World) :
    Calls Try.prog 83 #[.slice p 0 cap, fv] w fun e w' => e = .returned (.tuple #[]) ∧ w' = w := by
  have hi := fun W => Try.stable_none p cap fv W
  go_enter Try.func83, Try.ntmps83
  go_wp2_with (go_at_call 138; refine (hi _).mono ?_; rintro e w' ⟨rfl, rfl⟩)
  go_end0
  exact ⟨rfl, rfl⟩
set_option maxHeartbeats 4000000 in
theorem Try.stable_some (enc : Int → Value) (cf : Int → Int → Int) (g : Nat) (cb : Array Value) (blk off cap : Nat) (d : Array Int) (w : World) (hO : OneCell enc) (eg : ∀ args w, (callFunc g args).run Try.prog w = .ok (.enter g args) w) (hcmp : CmpLays1 Try.prog g cb enc cf blk off d.size w) (hH : Holds enc w blk off d) (hblk : blk < w.heap.size) (hsz : d.size < 20) :
    Calls Try.prog 138 #[.slice (some ⟨blk, off, none⟩) d.size cap, .int .i64 d.size, .func (.func g) #[] cb] w fun e w' => e = .returned (.tuple #[]) ∧ SW enc w blk off (insertionSort (ltOf cf) d 0 d.size) w' := by
  have hi := fun W S => Any.insertionSortCmpFunc_s Try.laysIns enc cf g cb blk off cap 0 d.size d d w W eg hcmp ⟨hO, hH, hblk⟩ rfl S (Nat.zero_le _) (Nat.le_refl _) (by omega)
  have hi2 := hi w (SW.start hH)
  clear hi hcmp hH
  change Calls Try.prog 165 _ _ _ at hi2
  have n1 : ¬ ((20 : Int) ≤ (d.size : Int)) := by omega
  have n2 : ¬ ((20 : Int) < (d.size : Int)) := by omega
  generalize hn : d.size = n at *
  have b1 : decide ((20 : Int) ≤ (n : Int)) = false := by simpa using n1
  have b2 : decide ((20 : Int) < (n : Int)) = false := by simpa using n2
  go_enter Try.func138, Try.ntmps138
  go_wp2
  refine wp_loop_rounds 1 ?_
  rw [rounds_succ]
  go_wp2_with (go_at_call 165; refine hi2.mono ?_; rintro e w' ⟨rfl, hw⟩)
  refine wp_loop_rounds 1 ?_
  rw [rounds_succ]
  go_wp2
  go_end0
  exact ⟨rfl, hw⟩
set_option maxHeartbeats 2000000 in
theorem Try.sort_some (enc : Int → Value) (cf : Int → Int → Int) (g : Nat) (cb : Array Value) (blk off cap : Nat) (d : Array Int) (w : World) (hO : OneCell enc) (eg : ∀ args w, (callFunc g args).run Try.prog w = .ok (.enter g args) w) (hcmp : CmpLays1 Try.prog g cb enc cf blk off d.size w) (hH : Holds enc w blk off d) (hblk : blk < w.heap.size) (hsz : d.size < 20) :
    Calls Try.prog 83 #[.slice (some ⟨blk, off, none⟩) d.size cap, .func (.func g) #[] cb] w fun e w' => e = .returned (.tuple #[]) ∧ SW enc w blk off (insertionSort (ltOf cf) d 0 d.size) w' := by
  have hi := Try.stable_some enc cf g cb blk off cap d w hO eg hcmp hH hblk hsz
  clear hcmp hH
  go_enter Try.func83, Try.ntmps83
  go_wp2_with (go_at_call 138; refine hi.mono ?_; rintro e w' ⟨rfl, hw⟩)
  go_end0
  exact ⟨rfl, hw⟩
set_option maxHeartbeats 2000000 in
theorem Try.clo84 (i j B o blk off n c : Nat) (x y : Int) (W : World) (h0 : W.cell? ⟨B, o, none⟩ = some (.slice (some ⟨blk, off, none⟩) n c)) (hi : i < n) (hj : j < n) (hx : W.cell? ⟨blk, off + i, none⟩ = some (.int .i64 x)) (hy : W.cell? ⟨blk, off + j, none⟩ = some (.int .i64 y)) :
    Calls Try.prog 84 #[.int .i64 i, .int .i64 j, .pointer (some ⟨B, o, none⟩)] W fun e w' => e = .returned (.int .i64 (Lib.compareInt y x)) ∧ ∃ q, w' = W.drewN q := by
  have hcon := fun W => AnyG.cmp_Compare_int Try.laysCmp y x W
  change ∀ W, Calls Try.prog 85 _ _ _ at hcon
  generalize Lib.compareInt y x = r at hcon ⊢
  go_enter Try.func84, Try.ntmps84
  go_wp2
  go_quiet (first | (go_at_call 85; refine Calls.quiet_of_same (hcon _)))
  go_wp2
  go_ret
  exact ⟨rfl, nq, rfl⟩
set_option maxHeartbeats 2000000 in
theorem Try.clo88 (i j B o blk off n c : Nat) (x y : Int) (W : World) (h0 : W.cell? ⟨B, o, none⟩ = some (.slice (some ⟨blk, off, none⟩) n c)) (hi : i < n) (hj : j < n) (hx : W.cell? ⟨blk, off + i, none⟩ = some (.int .i64 x)) (hy : W.cell? ⟨blk, off + j, none⟩ = some (.int .i64 y)) :
    Calls Try.prog 88 #[.int .i64 i, .int .i64 j, .pointer (some ⟨B, o, none⟩)] W fun e w' => e = .returned (.int .i64 (Lib.compareInt y x)) ∧ ∃ q, w' = W.drewN q := by
  have hcon := fun W => AnyG.cmp_Compare_int Try.laysCmp y x W
  change ∀ W, Calls Try.prog 85 _ _ _ at hcon
  generalize Lib.compareInt y x = r at hcon ⊢
  go_enter Try.func88, Try.ntmps88
  go_wp2
  go_quiet (first | (go_at_call 85; refine Calls.quiet_of_same (hcon _)))
  go_wp2
  go_ret
  exact ⟨rfl, nq, rfl⟩
end Go.Proofs
