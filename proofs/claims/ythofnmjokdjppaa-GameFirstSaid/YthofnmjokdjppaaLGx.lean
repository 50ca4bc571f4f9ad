/-
  The statement GameFirst as a plain law. Conditions: none.
-/
import Derived.Test.YthofnmjokdjppaaLGw
import Derived.Test.YthofnmjokdjppaaSkGameFirst
set_option linter.unusedSimpArgs false
set_option linter.unusedVariables false
namespace Go.SH
open Go Go.AX

theorem Fr_last {m J C : Nat} : Fr (m + 1) J (C ||| 2 ^ m) = Fr m J C := bx fun j => by
  rw [testBit_Fr, testBit_Fr, Nat.testBit_or, testBit_pow]
  by_cases e : m = j
  · subst e; simp
  · have : decide (j < m + 1) = decide (j < m) := decide_eq_decide.2 (by omega)
    rw [this]
    simp [e]
theorem dif_last {m C : Nat} : dif (2 ^ (m + 1) - 1) (C ||| 2 ^ m) = dif (2 ^ m - 1) C := bx fun j => by
  rw [testBit_dif, testBit_dif, Nat.testBit_two_pow_sub_one, Nat.testBit_two_pow_sub_one, Nat.testBit_or, testBit_pow]
  by_cases e : m = j
  · subst e; simp
  · have : decide (j < m + 1) = decide (j < m) := decide_eq_decide.2 (by omega)
    rw [this]
    simp [e]

/-- The last edge is cut: the game without it. -/
theorem win_last {H H' : Nat → Prop} {m : Nat} (h : ∀ X, X < 2 ^ m → (H' X ↔ H X)) : ∀ (k J C : Nat) (w : Bool), J < 2 ^ m → (Win H' (m + 1) k J (C ||| 2 ^ m) w ↔ Win H m k J C w) := by
  intro k
  induction k with
  | zero => intro J C w hJ; exact h J hJ
  | succ k ih =>
    intro J C w hJ
    have hall : dif (2 ^ m - 1) C < 2 ^ m := dif_lt (by have := Nat.two_pow_pos m; omega)
    cases w with
    | true =>
      show (H' J ∨ _) ↔ (H J ∨ _)
      rw [h J hJ, dif_last, h _ hall, Fr_last]
      refine or_congr Iff.rfl (and_congr Iff.rfl (exists_congr fun i => ?_))
      constructor
      · exact fun ⟨q1, q2⟩ => ⟨q1, (ih _ _ _ (or_lt hJ (pow_lt (bit_lt (Fr_lt _ _ _) q1)))).1 q2⟩
      · exact fun ⟨q1, q2⟩ => ⟨q1, (ih _ _ _ (or_lt hJ (pow_lt (bit_lt (Fr_lt _ _ _) q1)))).2 q2⟩
    | false =>
      show (H' J ∨ _) ↔ (H J ∨ _)
      rw [h J hJ, dif_last, h _ hall, Fr_last]
      refine or_congr Iff.rfl (and_congr Iff.rfl (forall_congr' fun i => imp_congr Iff.rfl ?_))
      have e : C ||| 2 ^ m ||| 2 ^ i = C ||| 2 ^ i ||| 2 ^ m := or_swap C m i
      rw [e]
      exact ih _ _ _ hJ

theorem cnt_Fr0 (m : Nat) : cnt m (Fr m 0 0) = m := by
  have : ∀ n, n ≤ m → cnt n (Fr m 0 0) = n := fun n => by
    induction n with
    | zero => intro _; rfl
    | succ n ih =>
      intro hn
      simp only [cnt]
      rw [ih (by omega), testBit_Fr]
      simp
      omega
  exact this m (Nat.le_refl m)

section
variable {N : Nat} {E : List (Int × Int)} {s t : Nat}

theorem ext_gra (h : Gra N E) (hs : s < N) (ht : t < N) (h8 : E.length ≠ 8) : Gra N (ext E s t) := by
  refine ⟨h.n1, h.n7, by have := h.e8; rw [ext_len]; omega, fun k hk => ?_⟩
  rw [ext_len] at hk
  by_cases c : k < E.length
  · have e : (ext E s t).getD k (0, 0) = E.getD k (0, 0) := by
      unfold ext
      rw [List.getD_eq_getElem?_getD, List.getElem?_append_left c, ← List.getD_eq_getElem?_getD]
    rw [e]; exact h.ends k c
  · have e : (ext E s t).getD k (0, 0) = ((s : Int), (t : Int)) := by
      have : k = E.length := by omega
      subst this
      unfold ext
      rw [List.getD_eq_getElem?_getD, List.getElem?_append_right (Nat.le_refl _)]
      simp
    rw [e]; simp only; omega

theorem first_iff (h : Gra N E) (hs : s < N) (ht : t < N) : Wn N (ext E s t) s t 0 0 false ↔ Wn N E s t 0 0 true := by
  have hE := h.ends'
  have hE' := ext_ends hE hs ht
  have hX : ∀ X, X < 2 ^ E.length → (Hang N (ext E s t) s t X ↔ Hang N E s t X) := fun X hX => by
    rw [Hang_iff hE' hs, Hang_iff hE hs, ext_con hX]
  have hlast : ∀ X, X.testBit E.length = true → Hang N (ext E s t) s t X := fun X hX => by
    rw [Hang_iff hE' hs]
    have := Con.edge (E := ext E s t) (S := X) (k := E.length) (by rw [ext_len]; omega) hX
    rwa [ext_last.1, ext_last.2] at this
  unfold Wn
  rw [cnt_Fr0, cnt_Fr0, ext_len]
  have h0 : 0 < 2 ^ E.length := Nat.two_pow_pos _
  constructor
  · intro hw
    rcases hw with hw | ⟨_, hall⟩
    · exact win_H ((hX 0 h0).1 hw)
    · have := hall E.length (by rw [testBit_Fr]; simp)
      exact (win_last hX _ 0 0 true h0).1 this
  · intro hw
    refine .inr ⟨hlast _ (by rw [testBit_dif, Nat.testBit_two_pow_sub_one]; simp), fun i hi => ?_⟩
    by_cases e : i = E.length
    · subst e
      exact (win_last hX _ 0 0 true h0).2 hw
    · rw [testBit_Fr, Bool.and_eq_true, decide_eq_true_eq] at hi
      obtain ⟨m', hm⟩ : ∃ m', E.length = m' + 1 := ⟨E.length - 1, by omega⟩
      have goal : ∀ k, k = m' + 1 → Win (Hang N (ext E s t) s t) (E.length + 1) k 0 (0 ||| 2 ^ i) true := fun k hk => by
        subst hk
        refine .inr ⟨hlast _ ?_, E.length, ?_, win_H (hlast _ ?_)⟩
        · rw [testBit_dif, Nat.testBit_two_pow_sub_one, Nat.testBit_or, testBit_pow]
          simp [e]
        · rw [testBit_Fr, Nat.testBit_or, testBit_pow]
          simp [e]
        · rw [Nat.testBit_or, testBit_pow]; simp
      exact goal _ hm
end

theorem pos_one : Pos 1 [] 0 0 0 0 := ⟨⟨by omega, by omega, by simp, fun k hk => by simp at hk⟩, by omega, by omega, by simp, by simp, fun i _ => Nat.zero_testBit i⟩
theorem first_three : Gets (game_Twins 1 [] 0 0) (fun r => r.2.2 = 0 ∧ r.1 = 0 ∧ r.2.1 = 0) := by
  have h : Gets (game_Twins (1 : Nat) [] (0 : Nat) (0 : Nat)) _ := gTwins pos_one
  refine Gets.mono (x := game_Twins 1 [] 0 0) h fun r hr => ?_
  rcases hr with ⟨q0, a, b, e1, e2, _, _, ha, hb⟩ | ⟨_, _, _, hno⟩
  · simp at ha hb
    subst ha hb
    exact ⟨q0, e1, e2⟩
  · exfalso
    have hw : Wn 1 [] 0 0 0 0 false := by
      show (hrn [] 0 (2 ^ 0) 1).testBit 0 = true
      rfl
    obtain ⟨a, b, h1, h2, h3, h4⟩ := complete pos_one.g pos_one.s pos_one.t hw
    exact hno a b h1 h2 h3 h4

theorem rotakeep_GameFirst_law (n : Int) (E : List (Int × Int)) (a1 a2 : Int) : rotakeep_GameFirst n E a1 a2 = some true := by
  refine Gets.eq ?_
  unfold rotakeep_GameFirst
  refine gBind first_three fun y hy => gIte (fun h => ?_) fun _ => ?_
  · exfalso
    obtain ⟨h1, h2, h3⟩ := hy
    rcases h with (h | h) | h
    · exact h h1
    · exact h h2
    · exact h h3
  obtain ⟨c, hc, hcq⟩ := gCheck_spec n E a1 a2 0 0
  by_cases c0 : c = 0
  rotate_left 1
  · exact gBindE (gJoins_bad hc c0 true) (gIte (fun _ => gSome (by simp)) fun h => absurd (.inl c0) h)
  obtain ⟨N, s, t, J, C, rfl, rfl, rfl, eJ, eC, hP⟩ := hcq c0
  have eJ' : J = 0 := by omega
  have eC' : C = 0 := by omega
  subst eJ' eC'
  have hG := hP.g
  have h8 := hG.e8
  have hJ : Gets (game_Joins N E s t 0 0 true) (fun r => r.2 = 0 ∧ (r.1 = true ↔ Wn N E s t 0 0 true)) := gJoins_ok hP true
  refine gBind hJ fun y1 hy1 => gIte (fun _ => gSome (by simp [hy1.1])) fun h => ?_
  have hl : E.length ≠ 8 := fun e => h (.inr (by omega))
  refine gBind (R := fun y2 => y2 = E) (by unfold slices_Clone_api_Edge_api_Edge; exact gChk (by omega) (gSome rfl)) fun y2 hy2 => ?_
  rw [hy2]
  refine gChk (by simp; omega) ?_
  have hG' := ext_gra hG hP.s hP.t hl
  have hP' : Pos N (ext E s t) s t 0 0 := ⟨hG', hP.s, hP.t, Nat.two_pow_pos _, Nat.two_pow_pos _, fun i _ => Nat.zero_testBit i⟩
  have hT : Gets (game_Twins N (E ++ [((s : Int), (t : Int))]) s t) _ := gTwins hP'
  refine gBind hT fun y3 hy3 => gSome ?_
  rw [decide_eq_true_eq, hy1.2, ← first_iff hG hP.s hP.t]
  rcases hy3 with ⟨q0, a, b, _, _, t1, t2, _, _⟩ | ⟨q5, _, _, hno⟩
  · exact ⟨fun _ => q0, fun _ => (sound hG' hP.s hP.t t1 t2).1⟩
  · refine ⟨fun w => ?_, fun q => by omega⟩
    obtain ⟨a, b, h1, h2, h3, h4⟩ := complete hG' hP.s hP.t w
    exact absurd h4 (hno a b h1 h2 h3)
end Go.SH
