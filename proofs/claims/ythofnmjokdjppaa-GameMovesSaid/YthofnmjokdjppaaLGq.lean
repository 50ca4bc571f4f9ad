/-
  The statement GameMoves as a plain law: the end. Conditions: none.
-/
import Derived.Test.YthofnmjokdjppaaLGo
set_option linter.unusedSimpArgs false
set_option linter.unusedVariables false
namespace Go.SH
open Go Go.AX

theorem pos_first : Pos 2 [(0, 1)] 0 1 1 0 := by
  refine ⟨⟨by omega, by omega, by simp, fun k hk => ?_⟩, by omega, by omega, by simp, by simp, fun i _ => Nat.zero_testBit i⟩
  have : k = 0 := by simpa using hk
  subst this
  simp
theorem first_ok : Gets (game_Joins 2 [(0, 1)] 0 1 1 0 false) (fun r => r.2 = 0 ∧ r.1 = true) := by
  have h : Gets (game_Joins 2 [(0, 1)] 0 1 1 0 false) (fun r => r.2 = 0 ∧ (r.1 = true ↔ Wn 2 [(0, 1)] 0 1 1 0 false)) := gJoins_ok pos_first false
  refine h.mono fun r hr => ⟨hr.1, hr.2.2 (win_H ?_)⟩
  show (hrn [(0, 1)] 1 (2 ^ 0) 2).testBit 1 = true
  rfl

theorem rotakeep_GameMoves_law (n : Int) (E : List (Int × Int)) (a1 a2 a3 a4 : Int) (f : Bool) : rotakeep_GameMoves n E a1 a2 a3 a4 f = some true := by
  refine Gets.eq ?_
  unfold rotakeep_GameMoves
  refine gBind first_ok fun y hy => gIte (fun h => ?_) fun _ => ?_
  · exfalso
    rcases h with h | h
    · exact h hy.1
    · exact h hy.2
  obtain ⟨c, hc, hcq⟩ := gCheck_spec n E a1 a2 a3 a4
  by_cases c0 : c = 0
  rotate_left 1
  · refine gBindE (gJoins_bad hc c0 true) (gBindE (gJoins_bad hc c0 false) (gIte (fun _ => gSome (by simp)) fun h => absurd c0 h))
  obtain ⟨N, s, t, J, C, rfl, rfl, rfl, rfl, rfl, hP⟩ := hcq c0
  clear hc hcq
  have h8 := hP.g.e8
  have hmono : ∀ a b, Inc a b → Hang N E s t a → Hang N E s t b := fun a b => Hang_mono a b
  have hboth := win_both (m := E.length) hmono _ J C rfl
  refine gBind (gJoins_ok hP true) fun y1 hy1 => gBind (gJoins_ok hP false) fun y2 hy2 => ?_
  refine gIte (fun h => absurd hy1.1 h) fun _ => gIte (fun h => ?_) fun _ => ?_
  · exfalso
    rcases h with h | ⟨h, h'⟩
    · exact h hy2.1
    · exact h' (hy1.2.2 (hboth.2 (hy2.2.1 h)))
  refine gJoin (R := fun v : Bool => v = true ↔ Wn N E s t J C f) ?_ ?_
  rotate_left 1
  · intro j hj
    cases f with
    | true => exact gIte (fun _ => hj _ hy1.2) fun h => absurd rfl h
    | false => exact gIte (fun h => absurd h (by simp)) fun _ => hj _ hy2.2
  intro v hv
  refine gBind (gMove_ok hP f) fun y3 hy3 => ?_
  refine gIte (fun h6 => gSome ?_) fun h6 => ?_
  · rcases hy3 with ⟨_, q2, q3⟩ | ⟨q, _⟩
    · simp only [decide_eq_true_eq]
      refine ⟨?_, q2⟩
      rw [hy1.2, hy2.2]
      rcases q3 with q3 | q3
      · exact ⟨fun _ => win_H q3, fun _ => win_H q3⟩
      · have hno : ∀ w, ¬ Wn N E s t J C w ∨ Hang N E s t J := fun w => by
          by_cases hJ : Hang N E s t J
          · exact .inr hJ
          · refine .inl fun hw => ?_
            unfold Wn at hw
            revert hw
            cases cnt E.length (Fr E.length J C) with
            | zero => exact fun hw => hJ hw
            | succ k =>
              cases w with
              | true => rintro (h | ⟨h, _⟩); exact hJ h; exact q3 h
              | false => rintro (h | ⟨h, _⟩); exact hJ h; exact q3 h
        by_cases hJ : Hang N E s t J
        · exact ⟨fun _ => win_H hJ, fun _ => win_H hJ⟩
        · exact ⟨fun h => absurd h ((hno true).resolve_right hJ), fun h => absurd h ((hno false).resolve_right hJ)⟩
    · exact absurd h6 q
  obtain ⟨_, hnJ, hHA, k, hk, hmv⟩ : y3.2 ≠ 6 ∧ ¬ Hang N E s t J ∧ Hang N E s t (dif (2 ^ E.length - 1) C) ∧ ∃ k, cnt E.length (Fr E.length J C) = k + 1 ∧
      ((y3.2 = 0 ∧ ∃ i : Nat, y3.1 = i ∧ (Fr E.length J C).testBit i = true ∧ Mv (Hang N E s t) E.length k J C f i) ∨ (y3.2 ≠ 0 ∧ ∀ i, (Fr E.length J C).testBit i = true → ¬ Mv (Hang N E s t) E.length k J C f i)) := by
    rcases hy3 with ⟨q, _⟩ | q
    · exact absurd q h6
    · exact q
  refine gIte (fun h => absurd ?_ h) fun _ => ?_
  · rw [hv]
    unfold Wn
    rw [hk]
    cases f with
    | true =>
      constructor
      · intro h0
        rcases hmv with ⟨_, i, _, hi, hM⟩ | ⟨q, _⟩
        · exact ⟨fun _ => rfl, fun _ => .inr ⟨hHA, i, hi, hM⟩⟩
        · exact absurd h0 q
      · intro h0
        rcases hmv with ⟨q, _⟩ | ⟨_, hM⟩
        · exact q
        · exfalso
          rcases h0.2 rfl with h | ⟨_, i, hi, hw⟩
          · exact hnJ h
          · exact hM i hi hw
    | false =>
      constructor
      · intro h0
        rcases hmv with ⟨_, i, _, hi, hM⟩ | ⟨q, _⟩
        · refine ⟨fun h => ?_, fun h => absurd h (by simp)⟩
          rcases h with h | ⟨_, h⟩
          · exact absurd h hnJ
          · exact absurd (h i hi) hM
        · exact absurd h0 q
      · intro h0
        rcases hmv with ⟨q, _⟩ | ⟨_, hM⟩
        · exact q
        · exfalso
          have := h0.1 (.inr ⟨hHA, fun i hi => Classical.byContradiction fun c => hM i hi c⟩)
          cases this
  refine gJoin (R := fun _ : Unit => True) ?_ ?_
  · intro _ _
    refine gBind (R := fun z : Unit ⊕ Bool => z = .inl ()) (gFor E.length (fun k x => x = (k : Int)) (Nat.zero_le _) rfl ?_) ?_
    · rintro i _ hi rfl
      refine gIte (fun l1 => ?_) fun l1 => gSome rfl
      have him : i < E.length := by omega
      rw [or_nat]
      refine gBindE (gIn_nat _ _) (gIte (fun _ => gSome ⟨him, by simp⟩) fun l2 => ?_)
      have hfree : (Fr E.length J C).testBit i = true := by
        rw [testBit_Fr]
        have := bool_ne l2
        rw [Nat.testBit_or] at this
        rw [this]
        simp [him]
      refine gChk (by omega) ?_
      rw [shl_nat, or_nat]
      refine gBind (gJoins_ok (hP.addJ hfree) f) fun y7 hy7 => gIte (fun h => ?_) fun _ => gSome ⟨him, by simp⟩
      exfalso
      rcases h with h | ⟨h, h'⟩
      · exact h hy7.1
      · refine h' (hy7.2.2 ?_)
        have := hboth.1 f i hfree (hv.1 h)
        unfold Wn
        rw [Fr_cJ hfree hk]
        rw [hk] at this
        exact this
    · rintro _ rfl
      exact gSome rfl
  · intro j1 hj1
    refine gIte (fun h0 => ?_) fun _ => hj1 _ trivial
    rcases hmv with ⟨_, i, hi1, hi, hM⟩ | ⟨q, _⟩
    rotate_left 1
    · exact absurd h0 q
    have him : i < E.length := bit_lt (Fr_lt _ _ _) hi
    rw [hi1]
    have hin : (J ||| C).testBit i = false := by
      rw [testBit_Fr] at hi
      rw [Nat.testBit_or]
      cases hb : (J.testBit i || C.testBit i) <;> simp [hb] at hi ⊢
    rw [or_nat, shl_nat, or_nat, or_nat, gIn_nat, hin]
    refine gJoin (R := fun v : Int × Int => match f with | true => v = (((J ||| 2 ^ i : Nat) : Int), (C : Int)) | false => v = ((J : Int), ((C ||| 2 ^ i : Nat) : Int))) ?_ ?_
    rotate_left 1
    · intro j2 hj2
      cases f with
      | true => exact gIte (fun _ => gChk (by omega) (hj2 _ rfl)) fun h => absurd rfl h
      | false => exact gIte (fun h => absurd h (by simp)) fun _ => gChk (by omega) (hj2 _ rfl)
    intro v' hv'
    have fin : ∀ (J' C' : Nat) (g : Bool), Pos N E s t J' C' → (g = !f) → (Wn N E s t J' C' g ↔ f = true) →
        Gets ((game_Joins N E s t J' C' g).bind fun y4 => (if ¬ y4.2 ≠ 0 then some false else some false).bind fun y5 => if (y4.2 ≠ 0 ∨ y5 = true) ∨ ¬ (y4.1 = true ↔ f = true) then some false else j1 ()) (fun b => b = true) := fun J' C' g hP' hg hw => by
      refine gBind (gJoins_ok hP' g) fun y4 hy4 => ?_
      rw [ite_self]
      refine gBindE rfl (gIte (fun h => ?_) fun _ => hj1 _ trivial)
      exfalso
      rcases h with (h | h) | h
      · exact h hy4.1
      · cases h
      · exact h (hy4.2.trans hw)
    cases f with
    | true =>
      simp only at hv'
      subst hv'
      have := fin (J ||| 2 ^ i) C false (hP.addJ hi) rfl (by
        unfold Wn
        rw [Fr_cJ hi hk]
        exact ⟨fun _ => rfl, fun _ => hM⟩)
      simpa using this
    | false =>
      simp only at hv'
      subst hv'
      have := fin J (C ||| 2 ^ i) true (hP.addC hi) rfl (by
        unfold Wn
        rw [Fr_cC hi hk]
        exact ⟨fun h => absurd h hM, fun h => by cases h⟩)
      simpa using this
end Go.SH
