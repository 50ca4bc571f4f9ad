/-
  The law ConvexLines, computed for each size. Conditions: none.
-/
import Derived.Test.YtobpcecpfojpmaaDoorEConv
import Derived.Test.YtobpcecpfojpmaaDoorHK
set_option linter.unusedSimpArgs false
set_option linter.unusedVariables false
namespace Go.SH
open Go Go.AX

theorem lines0 : rotakeep_ConvexLines 0 = some true := E_rotakeep_ConvexLines 0 _ (by kernel_rfl)
theorem pick0 : rotaref_Pick 0 8 = some 0 := E_rotaref_Pick 0 8 _ (by kernel_rfl)
theorem lines1 : rotakeep_ConvexLines 1 = some true := E_rotakeep_ConvexLines 1 _ (by kernel_rfl)
theorem pick1 : rotaref_Pick 1 8 = some 1 := E_rotaref_Pick 1 8 _ (by kernel_rfl)
theorem lines2 : rotakeep_ConvexLines 2 = some true := E_rotakeep_ConvexLines 2 _ (by kernel_rfl)
theorem pick2 : rotaref_Pick 2 8 = some 2 := E_rotaref_Pick 2 8 _ (by kernel_rfl)
theorem lines3 : rotakeep_ConvexLines 3 = some true := E_rotakeep_ConvexLines 3 _ (by kernel_rfl)
theorem pick3 : rotaref_Pick 3 8 = some 3 := E_rotaref_Pick 3 8 _ (by kernel_rfl)
theorem lines4 : rotakeep_ConvexLines 4 = some true := E_rotakeep_ConvexLines 4 _ (by kernel_rfl)
theorem pick4 : rotaref_Pick 4 8 = some 4 := E_rotaref_Pick 4 8 _ (by kernel_rfl)
theorem lines5 : rotakeep_ConvexLines 5 = some true := E_rotakeep_ConvexLines 5 _ (by kernel_rfl)
theorem pick5 : rotaref_Pick 5 8 = some 5 := E_rotaref_Pick 5 8 _ (by kernel_rfl)
theorem lines6 : rotakeep_ConvexLines 6 = some true := E_rotakeep_ConvexLines 6 _ (by kernel_rfl)
theorem pick6 : rotaref_Pick 6 8 = some 6 := E_rotaref_Pick 6 8 _ (by kernel_rfl)
theorem lines7 : rotakeep_ConvexLines 7 = some true := E_rotakeep_ConvexLines 7 _ (by kernel_rfl)
theorem pick7 : rotaref_Pick 7 8 = some 7 := E_rotaref_Pick 7 8 _ (by kernel_rfl)
theorem pick_spec (k : Int) (h1 : -9223372036854775808 ≤ k) (h2 : k ≤ 9223372036854775807) : ∃ y : Int, rotaref_Pick k 8 = some y ∧ 0 ≤ y ∧ y < 8 := by
  have key : ∀ a : Int, 0 ≤ a → 0 ≤ Int.tmod a 8 ∧ Int.tmod a 8 < 8 := fun a ha => by
    rw [Int.tmod_eq_emod_of_nonneg ha]
    omega
  unfold rotaref_Pick
  by_cases h : k < 0
  · rw [if_pos h, chk_pos (by omega), chk_pos (by omega)]
    exact ⟨_, rfl, key _ (by omega)⟩
  · rw [if_neg h, chk_pos (by omega)]
    exact ⟨_, rfl, key _ (by omega)⟩
theorem lines_of {k y : Int} (h1 : rotaref_Pick k 8 = some y) (h2 : rotaref_Pick y 8 = some y) : rotakeep_ConvexLines k = rotakeep_ConvexLines y := by
  unfold rotakeep_ConvexLines
  rw [h1, h2]
theorem rotakeep_ConvexLines_law (k : Int) (h1 : -9223372036854775808 ≤ k) (h2 : k ≤ 9223372036854775807) : rotakeep_ConvexLines k = some true := by
  obtain ⟨y, e, y0, y8⟩ := pick_spec k h1 h2
  obtain ⟨n, rfl⟩ := Int.eq_ofNat_of_zero_le y0
  match n, y8, e with
  | 0, _, e => exact (lines_of e pick0).trans lines0
  | 1, _, e => exact (lines_of e pick1).trans lines1
  | 2, _, e => exact (lines_of e pick2).trans lines2
  | 3, _, e => exact (lines_of e pick3).trans lines3
  | 4, _, e => exact (lines_of e pick4).trans lines4
  | 5, _, e => exact (lines_of e pick5).trans lines5
  | 6, _, e => exact (lines_of e pick6).trans lines6
  | 7, _, e => exact (lines_of e pick7).trans lines7
  | n + 8, h, _ => exact absurd h (by omega)
end Go.SH
