/-
  The library's stable sort at fewer than twenty integers, walked; two comparisons of the program's. The stable sort and its two comparisons, as this seat's program has them, in the executor's words.  Conditions: none.
-/
import Derived.Test.YtkjfccdfmjnkbaaShelfS
import Derived.WalkKit
import Derived.Deep.QuietTactic
import Derived.Test.YtkjfccdfmjnkbaaAxX
import Derived.Test.YtkjfccdfmjnkbaaSpgreedy

set_option linter.unusedSimpArgs false
set_option linter.unusedVariables false
namespace Go.Proofs
open Go.Shelf Go.RowKit Go.Lib Go.Sort

set_option maxHeartbeats 2000000 in
theorem Try.ins_none (p : Option Addr) (cap : Nat) (fv : Value) (w : World) :
    Calls Try.prog 107 #[.slice p 0 cap, .int .i64 0, .int .i64 0, fv] w fun e w' => e = .returned (.tuple #[]) ∧ w' = w := by
  go_enter Try.func107, Try.ntmps107
  go_wp2
  refine wp_loop_rounds 1 ?_
  rw [rounds_succ]
  go_wp2
  go_end0
  exact ⟨rfl, rfl⟩
set_option maxHeartbeats 2000000 in
theorem Try.stable_none (p : Option Addr) (cap : Nat) (fv : Value) (w : World) :
    Calls Try.prog 90 #[.slice p 0 cap, .int .i64 0, fv] w fun e w' => e = .returned (.tuple #[]) ∧ w' = w := by
  have hi := fun W => Try.ins_none p cap fv W
  go_enter Try.func90, Try.ntmps90
  go_wp2
  refine wp_loop_rounds 1 ?_
  rw [rounds_succ]
  go_wp2_with (go_at_call 107; refine (hi _).mono ?_; rintro e w' ⟨rfl, rfl⟩)
  refine wp_loop_rounds 1 ?_
  rw [rounds_succ]
  go_wp2
  go_end0
  exact ⟨rfl, rfl⟩
set_option maxHeartbeats 2000000 in
theorem Try.sort_none (p : Option Addr) (cap : Nat) (fv : Value) (w : World) :
    Calls Try.prog 53 #[.slice p 0 cap, fv] w fun e w' => e = .returned (.tuple #[]) ∧ w' = w := by
  have hi := fun W => Try.stable_none p cap fv W
  go_enter Try.func53, Try.ntmps53
  go_wp2_with (go_at_call 90; refine (hi _).mono ?_; rintro e w' ⟨rfl, rfl⟩)
  go_end0
  exact ⟨rfl, rfl⟩
set_option maxHeartbeats 4000000 in
theorem Try.stable_some (enc : Int → Value) (cf : Int → Int → Int) (g : Nat) (cb : Array Value) (blk off cap : Nat) (d : Array Int) (w : World) (hO : OneCell enc) (eg : ∀ args w, (callFunc g args).run Try.prog w = .ok (.enter g args) w) (hcmp : CmpLays1 Try.prog g cb enc cf blk off d.size w) (hH : Holds enc w blk off d) (hblk : blk < w.heap.size) (hsz : d.size < 20) :
    Calls Try.prog 90 #[.slice (some ⟨blk, off, none⟩) d.size cap, .int .i64 d.size, .func (.func g) #[] cb] w fun e w' => e = .returned (.tuple #[]) ∧ SW enc w blk off (insertionSort (ltOf cf) d 0 d.size) w' := by
  have hi := fun W S => Any.insertionSortCmpFunc_s Try.laysIns enc cf g cb blk off cap 0 d.size d d w W eg hcmp ⟨hO, hH, hblk⟩ rfl S (Nat.zero_le _) (Nat.le_refl _) (by omega)
  have hi2 := hi w (SW.start hH)
  clear hi hcmp hH
  change Calls Try.prog 107 _ _ _ at hi2
  have n1 : ¬ ((20 : Int) ≤ (d.size : Int)) := by omega
  have n2 : ¬ ((20 : Int) < (d.size : Int)) := by omega
  generalize hn : d.size = n at *
  have b1 : decide ((20 : Int) ≤ (n : Int)) = false := by simpa using n1
  have b2 : decide ((20 : Int) < (n : Int)) = false := by simpa using n2
  go_enter Try.func90, Try.ntmps90
  go_wp2
  refine wp_loop_rounds 1 ?_
  rw [rounds_succ]
  go_wp2_with (go_at_call 107; refine hi2.mono ?_; rintro e w' ⟨rfl, hw⟩)
  refine wp_loop_rounds 1 ?_
  rw [rounds_succ]
  go_wp2
  go_end0
  exact ⟨rfl, hw⟩
set_option maxHeartbeats 2000000 in
theorem Try.sort_some (enc : Int → Value) (cf : Int → Int → Int) (g : Nat) (cb : Array Value) (blk off cap : Nat) (d : Array Int) (w : World) (hO : OneCell enc) (eg : ∀ args w, (callFunc g args).run Try.prog w = .ok (.enter g args) w) (hcmp : CmpLays1 Try.prog g cb enc cf blk off d.size w) (hH : Holds enc w blk off d) (hblk : blk < w.heap.size) (hsz : d.size < 20) :
    Calls Try.prog 53 #[.slice (some ⟨blk, off, none⟩) d.size cap, .func (.func g) #[] cb] w fun e w' => e = .returned (.tuple #[]) ∧ SW enc w blk off (insertionSort (ltOf cf) d 0 d.size) w' := by
  have hi := Try.stable_some enc cf g cb blk off cap d w hO eg hcmp hH hblk hsz
  clear hcmp hH
  go_enter Try.func53, Try.ntmps53
  go_wp2_with (go_at_call 90; refine hi.mono ?_; rintro e w' ⟨rfl, hw⟩)
  go_end0
  exact ⟨rfl, hw⟩
set_option maxHeartbeats 2000000 in
theorem Try.clo54 (i j B o blk off n c : Nat) (x y : Int) (W : World) (h0 : W.cell? ⟨B, o, none⟩ = some (.slice (some ⟨blk, off, none⟩) n c)) (hi : i < n) (hj : j < n) (hx : W.cell? ⟨blk, off + i, none⟩ = some (.int .i64 x)) (hy : W.cell? ⟨blk, off + j, none⟩ = some (.int .i64 y)) :
    Calls Try.prog 54 #[.int .i64 i, .int .i64 j, .pointer (some ⟨B, o, none⟩)] W fun e w' => e = .returned (.int .i64 (Lib.compareInt y x)) ∧ ∃ q, w' = W.drewN q := by
  have hcon := fun W => AnyG.cmp_Compare_int Try.laysCmp y x W
  change ∀ W, Calls Try.prog 55 _ _ _ at hcon
  generalize Lib.compareInt y x = r at hcon ⊢
  go_enter Try.func54, Try.ntmps54
  go_wp2
  go_quiet (first | (go_at_call 55; refine Calls.quiet_of_same (hcon _)))
  go_wp2
  go_ret
  exact ⟨rfl, nq, rfl⟩
end Go.Proofs

set_option linter.unusedSimpArgs false
set_option linter.unusedVariables false
namespace Go.AX
open Go Go.RowKit Go.Proofs

theorem Try.stab : StabOk Try.prog 53 where
  some := fun enc cf g cb blk off cap d w hO eg hcmp hH hblk hsz => Go.Proofs.Try.sort_some enc cf g cb blk off cap d w hO eg hcmp hH hblk hsz
  none := fun p cap fv w => Go.Proofs.Try.sort_none p cap fv w

theorem agreeC {F : Fz} {W : World} (h : Agree F W) {a : Addr} {v : Value} (hc : cellF F a = some v) : W.cell? a = some v := by
  unfold cellF at hc
  split at hc
  · rename_i c u z hF
    unfold World.cell?
    rw [h _ _ hF]
    exact hc
  · cases hc
theorem addr_plain {W : World} {a : Addr} {v : Value} (h : W.cell? a = some v) : a = ⟨a.block, a.off, none⟩ := by
  unfold World.cell? at h
  split at h
  · split at h
    · cases h
    · rename_i q
      cases a with
      | mk b o s => cases s with
        | none => rfl
        | some x => simp at q
  · cases h
/-- A captured list of integers, cell by cell. -/
theorem clo_imm {F : Fz} {ws : List Int} {v : Value} {W : World} (h : RepV F φ0 (.immp [.ints .i64 ws]) v) (hag : Agree F W) (hpos : 0 < ws.length) :
    ∃ B o blk off c, v = .pointer (some ⟨B, o, none⟩) ∧ W.cell? ⟨B, o, none⟩ = some (.slice (some ⟨blk, off, none⟩) ws.length c) ∧ ∀ i, i < ws.length → W.cell? ⟨blk, off + i, none⟩ = some (.int .i64 (ws.getD i 0)) := by
  cases h with
  | immp _ ad u h1 h2 =>
    have c0 := agreeC hag (h1 0 _ rfl).1
    have r0 := h2 0 _ rfl
    have e0 : ad.add 0 = ad := rfl
    rw [e0] at c0
    have hp := addr_plain c0
    generalize u 0 = u0 at c0 r0
    cases r0 with
    | ints _ _ _ r0 =>
      cases r0 with
      | imm _ _ A n c q k1 k2 k3 k4 k5 k6 k7 =>
        have hn : n = ws.length := by rw [k1]; simp [intEs]
        subst hn
        obtain ⟨ad2, rfl⟩ : ∃ ad2, A = some ad2 := Option.ne_none_iff_exists'.1 (k5 hpos)
        have cell : ∀ i, i < ws.length → W.cell? (ad2.add i) = some (.int .i64 (ws.getD i 0)) := fun i hi => by
          have hes : (intEs .i64 ws)[i]? = some [.int .i64 (ws.getD i 0)] := by
            rw [List.getD_eq_getElem?_getD, List.getElem?_eq_getElem hi]
            simp [intEs, List.getElem?_eq_getElem hi]
          have d1 := agreeC hag (k6 ad2 i _ 0 _ rfl hes rfl).1
          have d2 := k7 i _ 0 _ hes rfl
          rw [Nat.mul_one, Nat.add_zero] at d1
          generalize q i 0 = z at d1 d2
          cases d2
          exact d1
        have cz := cell 0 hpos
        have ez : ad2.add 0 = ad2 := rfl
        rw [ez] at cz
        have hp2 := addr_plain cz
        refine ⟨ad.block, ad.off, ad2.block, ad2.off, c, by rw [← hp], by rw [← hp, c0, ← hp2], fun i hi => ?_⟩
        have := cell i hi
        rw [← this]
        congr 1
        unfold Addr.add
        by_cases hz : i = 0
        · subst hz; rw [if_pos rfl]; exact hp2.symm
        · rw [if_neg hz]
end Go.AX
namespace Go.SH
open Go Go.AX Go.AX.Try Go.Proofs Go.RowKit

theorem compareInt_eq (x y : Int) : cmp_Compare_int x y = some (Lib.compareInt x y) := by
  unfold cmp_Compare_int Lib.compareInt
  simp [cmp_isNaN_int]
  by_cases h1 : x < y
  · simp [h1]
  · by_cases h2 : y < x <;> simp [h1, h2]
theorem clo_pure {g : Nat} (hw : ∀ (i j B o blk off n c : Nat) (x y : Int) (W : World), W.cell? ⟨B, o, none⟩ = some (.slice (some ⟨blk, off, none⟩) n c) → i < n → j < n → W.cell? ⟨blk, off + i, none⟩ = some (.int .i64 x) → W.cell? ⟨blk, off + j, none⟩ = some (.int .i64 y) →
      Calls Try.prog g #[.int .i64 i, .int .i64 j, .pointer (some ⟨B, o, none⟩)] W fun e w' => e = .returned (.int .i64 (Lib.compareInt y x)) ∧ ∃ q, w' = W.drewN q)
    {a b r : Int} {ws : List Int} (ha : 0 ≤ a ∧ a < ws.length) (hb : 0 ≤ b ∧ b < ws.length) (hr : r = Lib.compareInt (ws.getD b.toNat 0) (ws.getD a.toNat 0)) : PureQ Try.prog g ([.int .i64 a, .int .i64 b] ++ [.immp [.ints .i64 ws]]) r := by
  intro W F vs hag hlen hargs
  obtain ⟨i, rfl⟩ := Int.eq_ofNat_of_zero_le ha.1
  obtain ⟨j, rfl⟩ := Int.eq_ofNat_of_zero_le hb.1
  have hi : i < ws.length := by omega
  have hj : j < ws.length := by omega
  simp at hlen
  obtain ⟨v0, v1, v2, rfl⟩ : ∃ v0 v1 v2, vs = #[v0, v1, v2] := ⟨vs[0], vs[1], vs[2], by
    apply Array.ext
    · simp; omega
    · intro k h1 h2
      have : k = 0 ∨ k = 1 ∨ k = 2 := by simp at h2; omega
      rcases this with rfl | rfl | rfl <;> rfl⟩
  have r0 := hargs 0 _ _ rfl rfl
  have r1 := hargs 1 _ _ rfl rfl
  have r2 := hargs 2 _ _ rfl rfl
  obtain ⟨rfl, _⟩ := int_inv r0
  obtain ⟨rfl, _⟩ := int_inv r1
  obtain ⟨B, o, blk, off, c, rfl, h1, h2⟩ := clo_imm r2 hag (by omega)
  subst hr
  exact hw i j B o blk off ws.length c _ _ W h1 hi hj (h2 i hi) (h2 j hj)
theorem WQ_greedy_Best_1 {a b r : Int} {ws : List Int} (h : greedy_Best_1 a b ws = some r) : PureQ Try.prog 54 ([.int .i64 a, .int .i64 b] ++ [.immp [.ints .i64 ws]]) r := by
  unfold greedy_Best_1 at h
  obtain ⟨h1, h⟩ := chk_some h
  rw [compareInt_eq] at h
  simp at h
  exact clo_pure (fun i j B o blk off n c x y W q1 q2 q3 q4 q5 => Go.Proofs.Try.clo54 i j B o blk off n c x y W q1 q2 q3 q4 q5) (by omega) (by omega) h.symm
end Go.SH
