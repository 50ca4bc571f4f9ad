/-
  KORTE, LOVASZ: trees, lines and what is ordered go one behind the other; the statement ConvexOrders as a plain law. Conditions: lists are no longer than 2^63 - 1.
-/
import Derived.Test.YtobpcecpfojpmaaDoorLTs
import Derived.Test.YtobpcecpfojpmaaDoorLAr
import Derived.Test.YtobpcecpfojpmaaDoorEConv
import Derived.Test.YtobpcecpfojpmaaDoorSkConvexOrders
set_option linter.unusedSimpArgs false
set_option linter.unusedVariables false
namespace Go.SH
open Go Go.AX

theorem orders22 : convex_Orders 2 [0, 1, 2, 3] = some (2, 0) := E_convex_Orders 2 _ _ (by kernel_rfl)
theorem lineK0 : convex_Line 0 = some ([0], 0) := E_convex_Line 0 _ (by kernel_rfl)
theorem lineC0 : convex_Check 0 [0] = some 0 := E_convex_Check 0 _ _ (by kernel_rfl)
theorem lineK1 : convex_Line 1 = some ([0, 1], 0) := E_convex_Line 1 _ (by kernel_rfl)
theorem lineC1 : convex_Check 1 [0, 1] = some 0 := E_convex_Check 1 _ _ (by kernel_rfl)
theorem lineK2 : convex_Line 2 = some ([0, 1, 2, 3], 0) := E_convex_Line 2 _ (by kernel_rfl)
theorem lineC2 : convex_Check 2 [0, 1, 2, 3] = some 0 := E_convex_Check 2 _ _ (by kernel_rfl)
theorem lineK3 : convex_Line 3 = some ([0, 1, 3, 4, 5, 6, 7], 0) := E_convex_Line 3 _ (by kernel_rfl)
theorem lineC3 : convex_Check 3 [0, 1, 3, 4, 5, 6, 7] = some 0 := E_convex_Check 3 _ _ (by kernel_rfl)
theorem lineK4 : convex_Line 4 = some ([0, 1, 3, 7, 8, 9, 11, 12, 13, 14, 15], 0) := E_convex_Line 4 _ (by kernel_rfl)
theorem lineC4 : convex_Check 4 [0, 1, 3, 7, 8, 9, 11, 12, 13, 14, 15] = some 0 := E_convex_Check 4 _ _ (by kernel_rfl)
theorem lineK5 : convex_Line 5 = some ([0, 1, 3, 7, 15, 16, 17, 19, 23, 24, 25, 27, 28, 29, 30, 31], 0) := E_convex_Line 5 _ (by kernel_rfl)
theorem lineC5 : convex_Check 5 [0, 1, 3, 7, 15, 16, 17, 19, 23, 24, 25, 27, 28, 29, 30, 31] = some 0 := E_convex_Check 5 _ _ (by kernel_rfl)
theorem lineK6 : convex_Line 6 = some ([0, 1, 3, 7, 15, 31, 32, 33, 35, 39, 47, 48, 49, 51, 55, 56, 57, 59, 60, 61, 62, 63], 0) := E_convex_Line 6 _ (by kernel_rfl)
theorem lineC6 : convex_Check 6 [0, 1, 3, 7, 15, 31, 32, 33, 35, 39, 47, 48, 49, 51, 55, 56, 57, 59, 60, 61, 62, 63] = some 0 := E_convex_Check 6 _ _ (by kernel_rfl)
theorem lineK7 : convex_Line 7 = some ([0, 1, 3, 7, 15, 31, 63, 64, 65, 67, 71, 79, 95, 96, 97, 99, 103, 111, 112, 113, 115, 119, 120, 121, 123, 124, 125, 126, 127], 0) := E_convex_Line 7 _ (by kernel_rfl)
theorem lineC7 : convex_Check 7 [0, 1, 3, 7, 15, 31, 63, 64, 65, 67, 71, 79, 95, 96, 97, 99, 103, 111, 112, 113, 115, 119, 120, 121, 123, 124, 125, 126, 127] = some 0 := E_convex_Check 7 _ _ (by kernel_rfl)
theorem lineK8 : convex_Line 8 = some ([0, 1, 3, 7, 15, 31, 63, 127, 128, 129, 131, 135, 143, 159, 191, 192, 193, 195, 199, 207, 223, 224, 225, 227, 231, 239, 240, 241, 243, 247, 248, 249, 251, 252, 253, 254, 255], 0) := E_convex_Line 8 _ (by kernel_rfl)
theorem lineC8 : convex_Check 8 [0, 1, 3, 7, 15, 31, 63, 127, 128, 129, 131, 135, 143, 159, 191, 192, 193, 195, 199, 207, 223, 224, 225, 227, 231, 239, 240, 241, 243, 247, 248, 249, 251, 252, 253, 254, 255] = some 0 := E_convex_Check 8 _ _ (by kernel_rfl)
theorem Line_spec (n : Int) : Gets (convex_Line n) (fun r => r.2 = 0 → convex_Check n r.1 = some 0 ∧ r.1.length ≤ 256) := by
  rcases Classical.em (n < 0 ∨ 8 < n) with c | c
  · unfold convex_Line
    rw [if_pos c]
    exact gSome fun e => absurd e (by simp)
  obtain ⟨m, rfl⟩ := Int.eq_ofNat_of_zero_le (show 0 ≤ n by omega)
  have hm : m < 9 := by omega
  match m, hm with
  | 0, _ => exact ⟨_, lineK0, fun _ => ⟨lineC0, by decide⟩⟩
  | 1, _ => exact ⟨_, lineK1, fun _ => ⟨lineC1, by decide⟩⟩
  | 2, _ => exact ⟨_, lineK2, fun _ => ⟨lineC2, by decide⟩⟩
  | 3, _ => exact ⟨_, lineK3, fun _ => ⟨lineC3, by decide⟩⟩
  | 4, _ => exact ⟨_, lineK4, fun _ => ⟨lineC4, by decide⟩⟩
  | 5, _ => exact ⟨_, lineK5, fun _ => ⟨lineC5, by decide⟩⟩
  | 6, _ => exact ⟨_, lineK6, fun _ => ⟨lineC6, by decide⟩⟩
  | 7, _ => exact ⟨_, lineK7, fun _ => ⟨lineC7, by decide⟩⟩
  | 8, _ => exact ⟨_, lineK8, fun _ => ⟨lineC8, by decide⟩⟩
  | k + 9, h => exact absurd h (by omega)

theorem anti_of {n : Int} {l : List Int} (hl : l.length ≤ 9223372036854775807) (h : convex_Check n l = some 0) : ∃ (m : Nat) (L : List Nat), n = (m : Int) ∧ l = cs L ∧ Anti m L := by
  rcases (convex_Check_spec n l hl).get h with ⟨_, q⟩ | ⟨q, _⟩
  · exact q
  · exact absurd rfl q

theorem block_ok {m : Nat} {L : List Nat} (h : Anti m L) {j : Unit → Option Bool} (hj : Gets (j ()) (fun b => b = true)) : Gets (
  (convex_Check (m : Int) (cs L)).bind fun y2 =>
  if y2 ≠ 0 then
  some false
 else
  (convex_Orders (m : Int) (cs L)).bind fun y3 =>
  (convex_First (m : Int) (cs L)).bind fun y4 =>
  if (((y3.2 ≠ 0 ∨ y4.2 ≠ 0) ∨ y3.1 < 1) ∨ (y4.1.length : Int) ≠ (m : Int)) then
  some false
 else
  (loopM (ρ := Unit ⊕ Bool) (fun ((v, v1) : Int × Int) =>
  if v1 < (y4.1.length : Int) then
  chk ((0 ≤ v1 ∧ v1 < y4.1.length)) <|
  (if ¬ ((y4.1.getD v1.toNat 0 < 0 ∨ (m : Int) ≤ y4.1.getD v1.toNat 0)) then rotaref_In v (y4.1.getD v1.toNat 0) else some false).bind fun y5 =>
  chk (((¬ (((y4.1.getD v1.toNat 0 < 0 ∨ (m : Int) ≤ y4.1.getD v1.toNat 0) ∨ y5 = true))) → (0 ≤ y4.1.getD v1.toNat 0 ∧ y4.1.getD v1.toNat 0 ≤ 62))) <|
  (if ¬ (((y4.1.getD v1.toNat 0 < 0 ∨ (m : Int) ≤ y4.1.getD v1.toNat 0) ∨ y5 = true)) then slices_Contains_int_int (cs L) (ior v (2 ^ (y4.1.getD v1.toNat 0).toNat : Int)) else some false).bind fun y6 =>
  if (((y4.1.getD v1.toNat 0 < 0 ∨ (m : Int) ≤ y4.1.getD v1.toNat 0) ∨ y5 = true) ∨ ¬ (y6 = true)) then
  some (.inr (.inr false))
 else
  chk ((0 ≤ y4.1.getD v1.toNat 0 ∧ y4.1.getD v1.toNat 0 ≤ 62)) <|
  some (.inl (ior v (2 ^ (y4.1.getD v1.toNat 0).toNat : Int), v1 + 1))
 else
  some (.inr (.inl ()))) (0, 0)).bind fun z => match z with
  | .inl _ => (j ())
  | .inr rr => some rr) (fun b => b = true) := by
  have hm8 := h.m8
  have hp8 := pow_le8 hm8
  refine gBindE h.check (gIte (fun q => absurd rfl q) fun _ => ?_)
  refine gBindE (convex_Orders_ok h) (gBind (First_spec h) ?_)
  rintro _ ⟨O, rfl, o1, o2⟩
  have hw := ways_pos h _ h.full
  simp only [cs_len]
  refine gIte (fun q => absurd q (by simp; omega)) fun _ => ?_
  refine gBind (R := fun z => match z with | .inl _ => True | .inr r => False) (gFor m (fun k (x : Int × Int) => x.2 = (k : Int) ∧ x.1 = ((pre O k : Nat) : Int)) (Nat.zero_le _) ⟨rfl, rfl⟩ ?_) ?_
  · rintro k ⟨_, _⟩ hk ⟨rfl, rfl⟩
    dsimp only
    refine gIte (fun h1 => ?_) fun h1 => gSome trivial
    have hk' : k < m := by omega
    have hlt := o2.lt k hk'
    have hnew := o2.new k hk'
    have hmem := o2.mem k hk'
    simp only [toNat_nat, cs_get, shl_nat', or_nat]
    have hno : ¬ ((((O.getD k 0 : Nat) : Int) < 0 ∨ (m : Int) ≤ ((O.getD k 0 : Nat) : Int))) := by omega
    refine gChk (by omega) (gBindE (show _ = some false by rw [if_pos hno, rotaref_In_nat, hnew]) (gChk (fun _ => by omega) ?_))
    refine gBindE (show _ = some true by
      rw [if_pos (by rintro (q | q); exact hno q; cases q), slices_Contains_spec _ _ (by have := h.len; rw [cs_len]; omega)]
      congr 1
      rw [decide_eq_true_eq, cs_mem]; exact hmem) ?_
    refine gIte (fun q => ?_) fun _ => gChk (by omega) (gSome ⟨hk', by simp, by rw [pre]⟩)
    rcases q with (q | q) | q
    · exact absurd q hno
    · cases q
    · exact absurd rfl q
  · rintro (u | r) hz
    · exact hj
    · exact hz.elim

theorem rotakeep_ConvexOrders_law (n : Int) (l : List Int) (p : List (Int × Int)) (g : Int) (E : List (Int × Int)) (hl : l.length ≤ 9223372036854775807) (hp : p.length ≤ 8796093022208) : rotakeep_ConvexOrders n l p g E = some true := by
  refine Gets.eq ?_
  unfold rotakeep_ConvexOrders
  refine gBindE orders22 (gIte (fun q => absurd q (by simp)) fun _ => ?_)
  refine gJoin (R := fun _ => True) (fun _ _ => gJoin (R := fun _ => True) (fun _ _ => gJoin (R := fun _ => True) (fun _ _ => gJoin (R := fun _ => True) (fun _ _ => gSome rfl) fun j hj => ?_) fun j hj => ?_) fun j hj => ?_) fun j hj => ?_
  · refine gBind (R := fun y => y.2.2 = 0 → ∃ (m : Nat) (L : List Nat), y.1 = (m : Int) ∧ y.2.1 = cs L ∧ Anti m L) ?_ ?_
    · unfold rotakeep_ConvexOrders_4
      obtain ⟨c, hc, _⟩ := convex_Check_spec n l hl
      refine gBindE hc (gSome fun e => anti_of hl ?_)
      rw [hc]; exact congrArg some e
    · rintro ⟨a, b, c⟩ hr
      refine gIte (fun _ => hj () trivial) fun q => ?_
      obtain ⟨m, L, rfl, rfl, h⟩ := hr (by simpa using q)
      exact block_ok h (hj () trivial)
  · refine gBind (R := fun y => y.2.2 = 0 → ∃ (m : Nat) (L : List Nat), y.1 = (m : Int) ∧ y.2.1 = cs L ∧ Anti m L) ?_ ?_
    · unfold rotakeep_ConvexOrders_3
      refine gBind (Line_spec n) fun y hy => gSome fun e => ?_
      obtain ⟨h1, h2⟩ := hy e
      exact anti_of (show y.1.length ≤ 9223372036854775807 by omega) h1
    · rintro ⟨a, b, c⟩ hr
      refine gIte (fun _ => hj () trivial) fun q => ?_
      obtain ⟨m, L, rfl, rfl, h⟩ := hr (by simpa using q)
      exact block_ok h (hj () trivial)
  · refine gBind (R := fun y => y.2.2 = 0 → ∃ (m : Nat) (L : List Nat), y.1 = (m : Int) ∧ y.2.1 = cs L ∧ Anti m L) ?_ ?_
    · unfold rotakeep_ConvexOrders_2
      exact gBind (Tree_spec g E) fun y hy => gSome hy
    · rintro ⟨a, b, c⟩ hr
      refine gIte (fun _ => hj () trivial) fun q => ?_
      obtain ⟨m, L, rfl, rfl, h⟩ := hr (by simpa using q)
      exact block_ok h (hj () trivial)
  · refine gBind (R := fun y => y.2.2 = 0 → ∃ (m : Nat) (L : List Nat), y.1 = (m : Int) ∧ y.2.1 = cs L ∧ Anti m L) ?_ ?_
    · unfold rotakeep_ConvexOrders_1
      refine gBind (Ordered_spec n p (by omega)) fun y hy => gSome fun e => ?_
      obtain ⟨h1, h2⟩ := hy e
      exact anti_of (show y.1.length ≤ 9223372036854775807 by omega) h1
    · rintro ⟨a, b, c⟩ hr
      refine gIte (fun _ => hj () trivial) fun q => ?_
      obtain ⟨m, L, rfl, rfl, h⟩ := hr (by simpa using q)
      exact block_ok h (hj () trivial)
end Go.SH
