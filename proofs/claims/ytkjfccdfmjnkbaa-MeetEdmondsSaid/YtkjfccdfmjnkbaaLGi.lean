/-
  The law MeetEdmonds. Conditions: none.
-/
import Derived.Test.YtkjfccdfmjnkbaaLGh
import Derived.Test.YtkjfccdfmjnkbaaSkMeetEdmonds
set_option linter.unusedSimpArgs false
set_option linter.unusedVariables false
namespace Go.SH
open Go Go.AX

theorem rotakeep_MeetEdmonds_law (n : Int) (l : List Int) (n' : Int) (l' w : List Int) (hl : l.length ≤ 9223372036854775807) (hl' : l'.length ≤ 9223372036854775807) : rotakeep_MeetEdmonds n l n' l' w = some true := by
  refine Gets.eq ?_
  unfold rotakeep_MeetEdmonds
  refine gBindE two_eq (gBindE two_eq (gBindE common_two (gIte (fun q => absurd q (by simp)) fun _ => ?_)))
  obtain ⟨c, hc, hs⟩ := both_spec n l n' l' hl hl'
  rcases hs with ⟨rfl, m, A, B, rfl, rfl, rfl, rfl, hA, hB⟩ | ⟨h0, _⟩
  rotate_left
  · exact gBindE (Common_bad hc h0) (gIte (fun _ => gSome (by simp)) fun q => absurd h0 q)
  have h8 := hA.m8
  have h256 := pow_le8 h8
  have hp2 : 0 < 2 ^ m := Nat.pow_pos (by omega)
  obtain ⟨S, U, e, S1, U1, S2, S3, U2, _, _⟩ := Common_ok hA hB
  refine gBindE e (gIte (fun q => absurd rfl q) fun _ => gBindE (axioms_Ranks_ok hA) (gBindE (axioms_Ranks_ok hB) ?_))
  dsimp only
  simp only [cs_len, rkL_len, cs_get, toNat_nat, rkL_get m A S1, rkL_get m B S1]
  refine gChk (fun _ => by omega) ?_
  rw [if_pos (by simp)]
  refine gBindE (rotaref_Size_nat S) ?_
  rw [size_of_lt S1 h8]
  refine gChk (fun _ => by omega) ?_
  rw [if_pos (by simp [S2])]
  refine gBindE (rotaref_Size_nat S) ?_
  rw [size_of_lt S1 h8]
  refine gIte (fun q => absurd q (by simp [S2, S3])) fun _ => ?_
  refine gBindE (rotaref_All_nat h8) ?_
  have e3 : ∀ k : Nat, iandnot ((2 ^ m - 1 : Nat) : Int) (k : Int) = ((cpl m k : Nat) : Int) := fun k => dif_nat _ _
  have bnd : ∀ k : Nat, rk m A k ≤ 8 ∧ rk m B k ≤ 8 := fun k => ⟨Nat.le_trans (hA.rk_size k) (Nat.le_trans (cnt_le m k) h8), Nat.le_trans (hB.rk_size k) (Nat.le_trans (cnt_le m k) h8)⟩
  have cS := cnt_le m S
  refine gBind (R := fun z => match z with | .inl _ => True | .inr r => False) (gFor (2 ^ m) (fun k v => v = (k : Int)) (Nat.zero_le _) rfl ?_) ?_
  · rintro k _ hk rfl
    simp only [e3, toNat_nat]
    refine gIte (fun h1 => ?_) fun _ => gSome trivial
    have hk' : k < 2 ^ m := by omega
    have hc' := cpl_lt m k
    rw [rkL_get m A hk', rkL_get m B hc']
    have b1 := (bnd k).1
    have b2 := (bnd (cpl m k)).2
    refine gChk (by omega) (gBindE (rotaref_Size_nat S) ?_)
    rw [size_of_lt S1 h8]
    have := both_le hA hB S1 S2 S3 (t := k)
    exact gIte (fun q => by omega) fun _ => gSome ⟨hk', by simp⟩
  · rintro (uu | rr) hz
    rotate_left
    · exact hz.elim
    have hcU := cpl_lt m U
    simp only [e3, toNat_nat, rkL_get m A U1, rkL_get m B hcU]
    have b1 := (bnd U).1
    have b2 := (bnd (cpl m U)).2
    refine gChk (by omega) (gBindE (rotaref_Size_nat S) ?_)
    rw [size_of_lt S1 h8]
    refine gIte (fun q => by omega) fun _ => ?_
    refine gBind (Heaviest_spec hA hB w) ?_
    rintro ⟨y1, y2⟩ (⟨z1, z2⟩ | ⟨z1, hW, N, hv⟩)
    · simp only at z2
      subst z2
      exact gIte (fun _ => gSome (by simp)) fun q => absurd z1 q
    · simp only at z1 hv
      subst z1
      refine gIte (fun q => absurd rfl q) fun _ => ?_
      dsimp only
      have hvl := hv.len
      have hNS : N = cnt m S := by
        refine Nat.le_antisymm ?_ (hv.most S S1 _ ⟨rfl, S2, S3⟩)
        obtain ⟨t, t1, t2, t3, t4⟩ := hv.top
        have := both_le hA hB t1 (by omega) (by omega) (t := U)
        omega
      have wb : ∀ s, -8000 ≤ wsum m (wf w) s ∧ wsum m (wf w) s ≤ 8000 := fun s => by
        have := sumN_abs8 (n := m) (g := fun i => if s.testBit i = true then wf w i else 0) (c := 1000) h8 fun i hi => by
          have := hW.2 i hi
          show _ ≤ ite (s.testBit i = true) (wf w i) 0 ∧ ite (s.testBit i = true) (wf w i) 0 ≤ _
          split <;> omega
        unfold wsum
        omega
      have hN1 : 2 ≤ N + 1 ∨ N = 0 := by omega
      refine gBind (R := fun z => match z with | .inl _ => True | .inr r => False) (gFor (k0 := 2) (N + 2) (fun k v => v = (k : Int) ∧ 2 ≤ k) (by omega) ⟨rfl, Nat.le_refl 2⟩ ?_) ?_
      · rintro k _ hk ⟨rfl, hk2⟩
        refine gIte (fun h1 => ?_) fun _ => gSome trivial
        have hkN : k ≤ N := by omega
        obtain ⟨j, rfl⟩ : ∃ j, k = j + 2 := ⟨k - 2, by omega⟩
        have e1 : ((((j + 2 : Nat) : Int) - 1).toNat) = j + 1 := by omega
        have e2 : ((((j + 2 : Nat) : Int) - 2).toNat) = j := by omega
        obtain ⟨t2, g2, l2, p2, m2⟩ := hv.get (j + 2) hkN
        obtain ⟨t1, g1, l1, p1, m1⟩ := hv.get (j + 1) (by omega)
        obtain ⟨t0, g0, l0, p0, m0⟩ := hv.get j (by omega)
        have ww : ∀ {t : Nat}, t < 2 ^ m → rotaref_Weighs w (t : Int) = some (wsum m (wf w) t) := fun {t} ht => Weighs_nat h8 w (c := 1000) (by omega) hW.1 hW.2 ht
        have w0 := wb t0
        have w1 := wb t1
        have w2 := wb t2
        simp only [toNat_nat, e1, e2, g0, g1, g2]
        refine gChk (by omega) (gBindE (ww l2) (gChk (by omega) (gBindE (ww l1) (gChk (by omega) (gBindE (ww l1) (gChk (by omega) (gBindE (ww l0) (gChk (by omega) ?_))))))))
        have := concave hA hB (w := wf w) l0 l1 l2 p0 p1 p2 m1
        exact gIte (fun q => by omega) fun _ => gSome ⟨by omega, by omega, by omega⟩
      · rintro (uu | rr) hz
        rotate_left
        · exact hz.elim
        refine gBindE (rotaref_Size_nat S) ?_
        rw [size_of_lt S1 h8]
        exact gChk (by omega) (gSome (by simp; omega))
end Go.SH
