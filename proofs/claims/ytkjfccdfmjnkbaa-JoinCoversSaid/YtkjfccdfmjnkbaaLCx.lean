/-
  The law JoinCovers: as few sets cover all as the densest one needs. Conditions: none.
-/
import Derived.Test.YtkjfccdfmjnkbaaLCw
set_option linter.unusedSimpArgs false
set_option linter.unusedVariables false
namespace Go.SH
open Go Go.AX

theorem cover_two : Gets (join_Cover 4 (cs twoB)) (fun r => r.2 = 0 ∧ r.1.length = 2) := by
  refine (Cover_spec mat_two).mono ?_
  have hr : RkF (rk 4 twoB) := mat_two.rkF
  rintro _ (⟨_, i, hi, h0⟩ | ⟨P, rfl, _, p1, _, p3⟩)
  · exfalso
    have key : ∀ i : Fin 4, rk 4 twoB (2 ^ i.val) ≠ 0 := by decide
    exact key ⟨i, hi⟩ h0
  · refine ⟨rfl, ?_⟩
    rw [cs_len]
    have q1 := Cv.bound hr (s := 2 ^ 4 - 1) (by omega) (Parts.cv (by omega) p1) (Inc.refl _)
    have q2 : cnt 8 (2 ^ 4 - 1) = 4 := by decide
    have q3 : rk 4 twoB (2 ^ 4 - 1) = 2 := by decide
    rw [q2, q3] at q1
    rcases Nat.lt_or_ge 2 P.length with c | c
    · refine absurd (Cv.of hr (s := 2 ^ 4 - 1) (by omega) fun S hS => ?_) (p3 2 c)
      have key : ∀ S : Fin 16, cnt 8 S.val ≤ 2 * rk 4 twoB S.val := by decide
      exact key ⟨S, hS.lt (m := 4) (by omega)⟩
    · omega
theorem dif_orC (a u t : Nat) : dif a (u ||| t) = dif (dif a u) t := Nat.eq_of_testBit_eq fun i => by
  rw [testBit_dif, testBit_dif, testBit_dif, Nat.testBit_or]
  cases a.testBit i <;> cases u.testBit i <;> cases t.testBit i <;> rfl
theorem drop_getC {L : List Nat} {i : Nat} (hi : i < L.length) : L.drop i = L.getD i 0 :: L.drop (i + 1) := by
  rw [List.drop_eq_getElem_cons hi, List.getD_eq_getElem?_getD, List.getElem?_eq_getElem hi]; rfl

theorem rotakeep_JoinCovers_law (n : Int) (l : List Int) (hl : l.length ≤ 9223372036854775807) : rotakeep_JoinCovers n l = some true := by
  refine Gets.eq ?_
  unfold rotakeep_JoinCovers
  refine gBindE two_eq (gBind cover_two ?_)
  rintro ⟨_, _⟩ ⟨rfl, z2⟩
  simp only at z2
  refine gIte (fun q => (by simp only at q; omega)) fun _ => ?_
  obtain ⟨c, hc, hs⟩ := axioms_Check_spec n l hl
  rcases hs with ⟨rfl, m, B, rfl, rfl, h⟩ | ⟨h0, _⟩
  rotate_left
  · have e1 : join_Cover n l = some ([], c) := by unfold join_Cover; rw [hc, Option.bind_some, if_pos h0]
    have e2 : join_Dense n l = some (0, c) := by unfold join_Dense; rw [hc, Option.bind_some, if_pos h0]
    exact gBindE e1 (gBindE e2 (gIte (fun _ => gSome (by simp)) fun q => absurd h0 q))
  have h8 := h.m8
  have h256 := pow_le8 h8
  have hp8 : 2 ^ m ≤ 2 ^ 8 := Nat.pow_le_pow_right (by omega) h8
  have hp2 : 0 < 2 ^ m := Nat.pow_pos (by omega)
  have hfl := full_lt m
  have hr := h.rkF
  obtain ⟨y2, e1, hC⟩ := Cover_spec h
  obtain ⟨y3, e2, hD⟩ := Dense_spec h
  refine gBindE e1 (gBindE e2 ?_)
  rcases hC with ⟨rfl, i, hi, hz⟩ | ⟨P, rfl, hn, p1, p2, p3⟩
  · rcases hD with ⟨rfl, _⟩ | ⟨d, rfl, _, hn, _⟩
    · exact gIte (fun _ => gSome (by simp)) fun q => absurd (by simp) q
    · exact absurd hz (hn (2 ^ i) (pow_lt hi) (pow_ne i))
  rcases hD with ⟨rfl, s, hs, hs0, hz⟩ | ⟨d, rfl, hdl, hnd, hd0, hdm⟩
  · exfalso
    obtain ⟨i, hi⟩ := exists_bit hs0
    have := h.rk_mono (inc_pow hi)
    have := hn i (bit_lt hs hi)
    omega
  refine gIte (fun q => absurd rfl q) fun _ => gBindE (axioms_Ranks_ok h) (gIte (fun q => absurd q (by simp)) fun _ => ?_)
  simp only [cs_len, cs_get, rkL_len]
  refine gBind (R := fun z => match z with | .inl v => v = ((2 ^ m - 1 : Nat) : Int) | .inr r => False) (gFor P.length (fun k (x : Int × Int) => x.2 = (k : Int) ∧ ∃ u : Nat, x.1 = (u : Int) ∧ Inc u (2 ^ m - 1) ∧ Parts (rk m B) (dif (2 ^ m - 1) u) (P.drop k)) (Nat.zero_le _) ⟨rfl, 0, rfl, inc_zero _, by
      rw [dif_zero]; exact p1⟩ ?_) ?_
  · rintro k ⟨_, _⟩ hk ⟨rfl, u, rfl, hu, hP⟩
    simp only [toNat_nat, and_nat, or_nat]
    refine gIte (fun h1 => ?_) fun h1 => gSome ?_
    · have hk' : k < P.length := by omega
      rw [drop_getC hk'] at hP
      obtain ⟨t0, t1, t2, t3⟩ := hP
      obtain ⟨t, hte⟩ : ∃ t, P.getD k 0 = t := ⟨_, rfl⟩
      simp only [hte] at t0 t1 t2 t3 ⊢
      have ht : Inc t (2 ^ m - 1) := t1.trans (inc_dif _ _)
      have htl := ht.lt hfl
      have hd : u &&& t = 0 := by
        rw [Nat.and_comm]
        refine (disj_iff _ _).2 fun i hi => ?_
        have := t1 i hi
        rw [testBit_dif, Bool.and_eq_true] at this
        simpa using this.2
      rw [hd]
      have hcond : ¬ (((t : Nat) : Int) = 0 ∨ ((0 : Nat) : Int) ≠ 0) := by omega
      refine gChk (by omega) (gChk (fun _ => by omega) ?_)
      rw [if_pos hcond]
      refine gBindE (rotaref_Size_nat t) ?_
      rw [rkL_get m B htl]
      have hsz : size t = cnt 8 t := rfl
      refine gIte (fun q => ?_) fun _ => gSome ⟨hk', by simp, u ||| t, rfl, inc_or hu ht, by rw [dif_orC]; exact t3⟩
      rcases q with q | q
      · exact absurd q hcond
      · rw [hsz, t2] at q; exact absurd rfl q
    · have e : k = P.length := by omega
      subst e
      rw [List.drop_length] at hP
      have hz : dif (2 ^ m - 1) u = 0 := hP
      have hi := dif_inc.1 hz
      have : u = 2 ^ m - 1 := Nat.eq_of_testBit_eq fun i => by
        cases a : u.testBit i with
        | true => exact (hu i a).symm
        | false =>
          cases b : (2 ^ m - 1).testBit i with
          | false => rfl
          | true => rw [hi i b] at a; cases a
      show (u : Int) = _
      rw [this]
  · rintro (v | rr) hz
    rotate_left
    · exact hz.elim
    have hv : v = ((2 ^ m - 1 : Nat) : Int) := hz
    subst hv
    refine gIte (fun q => gSome ?_) fun q => ?_
    · have : m = 0 := hd0 (by omega)
      subst this
      simp
    · have hd0' : d ≠ 0 := by omega
      have hrd := hnd d hdl hd0'
      refine gBindE (rotaref_All_nat h8) ?_
      rw [if_pos rfl]
      refine gBindE (rotaref_Size_nat d) ?_
      refine gChk (fun _ => by omega) ?_
      rw [if_pos rfl, size_of_lt hdl h8, toNat_nat, rkL_get m B hdl]
      have hc1 := cnt_le m d
      have hc2 := h.rk_size d
      refine gBindE (Up_nat (by omega) (by omega) (by omega)) (gSome ?_)
      have key : P.length = upw m B d := by
        refine Nat.le_antisymm ?_ ?_
        · rcases Nat.lt_or_ge (upw m B d) P.length with c | c
          · refine absurd (Cv.of hr (s := 2 ^ m - 1) (by omega) fun S hS => ?_) (p3 _ c)
            have hSl := hS.lt hfl
            rw [cnt8 h8 hSl]
            rcases Classical.em (S = 0) with q0 | q0
            · rw [q0, cnt_zero]; exact Nat.zero_le _
            · exact (upw_le (hnd S hSl q0)).1 (hdm S hSl q0)
          · exact c
        · have := Cv.bound hr (s := 2 ^ m - 1) (by omega) (Parts.cv (by omega) p1) (full_incC hdl)
          rw [cnt8 h8 hdl] at this
          exact (upw_le hrd).2 this
      have e3 : (cnt m d + rk m B d - 1) / rk m B d = upw m B d := rfl
      rw [e3, ← key]
      simp
end Go.SH
