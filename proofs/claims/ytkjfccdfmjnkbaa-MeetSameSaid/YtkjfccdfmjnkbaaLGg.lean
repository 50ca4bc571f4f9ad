/-
  The law MeetSame. Conditions: none.
-/
import Derived.Test.YtkjfccdfmjnkbaaLGf
import Derived.Test.YtkjfccdfmjnkbaaSkMeetSame
set_option linter.unusedSimpArgs false
set_option linter.unusedVariables false
namespace Go.SH
open Go Go.AX

theorem basis_size {m : Nat} {B : List Nat} (h : Mat m B) {b : Nat} (hb : b ∈ B) : cnt m b = rk m B (2 ^ m - 1) ∧ rk m B b = cnt m b := by
  have h1 := (h.ind_iff (h.lt b hb)).1 ⟨b, hb, Inc.refl b⟩
  have h2 := h.rk_mono (s := b) (t := 2 ^ m - 1) fun i hi => by rw [full_bit, decide_eq_true_eq]; exact bit_lt (h.lt b hb) hi
  have h3 : rk m B (2 ^ m - 1) ≤ cnt m b := rk_le.2 fun b' hb' => by
    have := cnt_le_of_inc (m := m) (inc_and_r (2 ^ m - 1) b')
    have := h.eqc b' hb' b hb
    omega
  omega
theorem IsCl.uniq {m : Nat} {B : List Nat} {s c c' : Nat} (h : IsCl m B s c) (h' : IsCl m B s c') : c = c' := set_ext h.1 h'.1 fun i hi => by
  rw [Bool.eq_iff_iff, h.2 i hi, h'.2 i hi]
theorem spanned_two : meet_Spanned 4 (cs twoB) 4 (cs twoB) 3 = some (15, 0) := by
  obtain ⟨r, e, r2, c, r1, hc⟩ := Spanned_ok mat_two (s := 3) (by omega)
  have h15 : IsCl 4 twoB 3 15 := ⟨by omega, fun i hi => by
    have : ∀ i : Fin 4, ((15 : Nat).testBit i.val = true ↔ (3 : Nat).testBit i.val = true ∨ rk 4 twoB (3 ||| 2 ^ i.val) = rk 4 twoB 3) := by decide
    exact this ⟨i, hi⟩⟩
  have := hc.uniq h15
  subst this
  obtain ⟨a, b⟩ := r
  simp only at r1 r2
  subst r1 r2
  exact e
theorem Spanned_bad {m : Nat} {B : List Nat} (h : Mat m B) {a : Int} (ha : ¬ ∃ s : Nat, a = (s : Int) ∧ s < 2 ^ m) : meet_Spanned m (cs B) m (cs B) a = some (0, 1) ∧ axioms_Closure m (cs B) a = some (0, 1) := by
  have h8 := h.m8
  have h256 := pow_le8 h8
  have hbad : a < 0 ∨ ((2 ^ m : Nat) : Int) ≤ a := by
    rcases Int.lt_or_le a 0 with c | c
    · exact .inl c
    · rcases Int.lt_or_le a ((2 ^ m : Nat) : Int) with d | d
      · exact absurd ⟨a.toNat, by omega, by omega⟩ ha
      · exact .inr d
  constructor
  · unfold meet_Spanned
    rw [both_ok h h, Option.bind_some, if_neg (by simp), chk_pos (fun _ => by omega)]
    simp only [toNat_nat, shl_nat']
    rw [if_pos hbad]
  · unfold axioms_Closure
    obtain ⟨y, e, hy⟩ := sets_Check_spec m a
    rcases hy with ⟨_, m', a', e1, _, rfl, h3⟩ | ⟨rfl, _⟩
    · exact absurd ⟨a', rfl, (by have hmm : m' = m := (by omega); subst hmm; exact h3)⟩ ha
    · rw [h.check, Option.bind_some, if_neg (by simp), e, Option.bind_some, if_pos (by simp)]
theorem rotakeep_MeetSame_law (n : Int) (l w : List Int) (a : Int) (hl : l.length ≤ 9223372036854775807) : rotakeep_MeetSame n l w a = some true := by
  refine Gets.eq ?_
  unfold rotakeep_MeetSame
  refine gBindE two_eq (gBindE two_eq (gBindE spanned_two (gIte (fun q => absurd q (by simp)) fun _ => ?_)))
  obtain ⟨c, hc, hs⟩ := both_spec n l n l hl hl
  rcases hs with ⟨rfl, m, B, B', rfl, rfl, _, e', h, _⟩ | ⟨h0, _⟩
  rotate_left
  · exact gBindE (Common_bad hc h0) (gIte (fun _ => gSome (by simp)) fun q => absurd h0 q)
  clear e'
  have h8 := h.m8
  have h256 := pow_le8 h8
  have hlen := h.len
  obtain ⟨S, U, e, S1, U1, S2, S3, U2, _, _⟩ := Common_ok h h
  refine gBindE e (gIte (fun q => absurd rfl q) fun _ => ?_)
  obtain ⟨b0, hb0⟩ := h.exists_basis
  obtain ⟨s1, s2⟩ := basis_size h hb0
  have hle := both_le h h (h.lt b0 hb0) s2 s2 (t := U)
  have hup := h.rk_mono (s := S) (t := 2 ^ m - 1) fun i hi => by rw [full_bit, decide_eq_true_eq]; exact bit_lt S1 hi
  have hSB : S ∈ B := h.ind_big ((h.ind_iff S1).2 S2) hb0 (by omega)
  rw [slices_Contains_spec _ _ (by rw [cs_len]; omega), Option.bind_some]
  have hm : ((S : Nat) : Int) ∈ cs B := (cs_mem _ _).2 hSB
  refine gIte (fun q => absurd (decide_eq_true hm) q) fun _ => ?_
  refine gJoin (R := fun _ => True) ?_ ?_
  · rintro _ _
    rcases Classical.em (∃ s : Nat, a = (s : Int) ∧ s < 2 ^ m) with ⟨s, rfl, hs⟩ | hn
    · refine gBind (Spanned_ok h hs) ?_
      rintro ⟨x1, x2⟩ ⟨z1, c1, z2, z3⟩
      refine gBind (axioms_Closure_ok h hs) ?_
      rintro ⟨y1, y2⟩ ⟨w1, c2, w2, w3⟩
      simp only at z1 z2 w1 w2
      subst z1 z2 w1 w2
      rw [z3.uniq w3]
      exact gSome (by simp)
    · obtain ⟨k1, k2⟩ := Spanned_bad h hn
      exact gBindE k1 (gBindE k2 (gSome (by simp)))
  · intro j hj
    refine gBind (Heaviest_spec h h w) ?_
    rintro ⟨y1, y2⟩ (⟨z1, z2⟩ | ⟨z1, hW, N, hv⟩)
    · exact gIte (fun q => absurd q z1) fun _ => hj () trivial
    · simp only at z1 hv
      subst z1
      refine gIte (fun _ => ?_) fun q => absurd rfl q
      refine gBind (Best_spec m (cs B) w (by rw [cs_len]; omega)) ?_
      rintro ⟨t1, t2, t3⟩ (⟨_, _, _, hn⟩ | ⟨k1, m', B', e1, e2, _, _, T, k2, k3, hT⟩)
      · exact absurd ⟨m, B, rfl, rfl, h, hW⟩ hn
      · have e1' : m = m' := by omega
        have e2' : B = B' := cs_inj e2
        subst e1' e2'
        simp only at k1 k2 k3
        subst k1 k2 k3
        have hvl := hv.len
        have hN8 : N ≤ m := by
          obtain ⟨t, t1, t2, _⟩ := hv.top
          rw [← t2]; exact cnt_le m t
        have eR : N = rk m B (2 ^ m - 1) := by
          refine Nat.le_antisymm ?_ ?_
          · obtain ⟨t, t1, t2, t3, _⟩ := hv.top
            have := h.rk_mono (s := t) (t := 2 ^ m - 1) fun i hi => by rw [full_bit, decide_eq_true_eq]; exact bit_lt t1 hi
            omega
          · exact hv.most b0 (h.lt b0 hb0) _ ⟨s1, by omega, by omega⟩
        obtain ⟨t, g1, g2, ⟨g3, g4, g5⟩, g6⟩ := hv.get N (Nat.le_refl N)
        have etn : ((y1.length : Int) - 1).toNat = N := by omega
        dsimp only at hvl g1 ⊢
        refine gChk ⟨fun _ => by omega, fun _ => by omega⟩ ?_
        rw [if_pos (by simp), etn, g1]
        refine gBindE (Weighs_nat h8 w (c := 1000) (by omega) hW.1 hW.2 g2) ?_
        have htB : t ∈ B := h.ind_big ((h.ind_iff g2).2 (by omega)) hb0 (by omega)
        have q1 := hT.le h hW htB
        obtain ⟨u1, u2⟩ := basis_size h hT.mem
        have q2 := g6 T (h.lt T hT.mem) ⟨by omega, by omega, by omega⟩
        refine gIte (fun q => ?_) fun _ => hj () trivial
        exfalso
        rcases q with q | q
        · exact q rfl
        · exact q (by omega)
end Go.SH
