/-
  The statement GameMoves as a plain law. Conditions: none.
-/
import Derived.Test.YthofnmjokdjppaaLGn
import Derived.Test.YthofnmjokdjppaaSprotaref
set_option linter.unusedSimpArgs false
set_option linter.unusedVariables false
namespace Go.SH
open Go Go.AX

theorem gCheckGraph_ok {N : Nat} {E : List (Int × Int)} (hG : Gra N E) : kinds_CheckGraph N E = some 0 := by
  have h1 := hG.n1
  have h7 := hG.n7
  have h8 := hG.e8
  refine Gets.eq ?_
  unfold kinds_CheckGraph
  refine gIte (fun h => absurd h (by omega)) fun _ => ?_
  refine gBind (R := fun z => z = .inl ()) (gFor E.length (fun k v => v = (k : Int)) (Nat.zero_le _) rfl ?_) ?_
  · rintro k _ hk rfl
    simp only [toNat_nat]
    refine gIte (fun h1 => gChk (by omega) (gIte (fun h2 => ?_) fun h2 => gSome ⟨by omega, by simp⟩)) fun h1 => gSome rfl
    have := hG.ends k (by omega)
    omega
  · rintro _ rfl
    exact gSome rfl

/-- A position. -/
structure Pos (N : Nat) (E : List (Int × Int)) (s t J C : Nat) : Prop where
  g : Gra N E
  s : s < N
  t : t < N
  lJ : J < 2 ^ E.length
  lC : C < 2 ^ E.length
  d : Dis J C

theorem inc_all {m J : Nat} : Inc J (2 ^ m - 1) ↔ J < 2 ^ m := by
  constructor
  · intro h
    refine lt_of_bits fun i hi => ?_
    cases hb : J.testBit i with
    | false => rfl
    | true =>
      have := h i hb
      rw [Nat.testBit_two_pow_sub_one, decide_eq_true_eq] at this
      omega
  · intro h i hi
    rw [Nat.testBit_two_pow_sub_one, decide_eq_true_eq]
    exact bit_lt h hi

theorem gCheck_spec (n : Int) (E : List (Int × Int)) (a1 a2 a3 a4 : Int) : Gets (game_Check n E a1 a2 a3 a4) (fun r => r = 0 → ∃ N s t J C : Nat, n = N ∧ a1 = s ∧ a2 = t ∧ a3 = J ∧ a4 = C ∧ Pos N E s t J C) := by
  unfold game_Check
  refine gBind (CheckGraph_spec n E) fun y hy => gIte (fun h => gSome fun e => absurd e h) fun h => ?_
  obtain ⟨N, rfl, hG⟩ := hy (by simpa using h)
  have hp8 : 2 ^ E.length ≤ 256 := pow_le8 hG.e8
  have h8 := hG.e8
  have hp0 := Nat.two_pow_pos E.length
  rw [all_nat]
  refine gChk (by omega) (gIte (fun _ => gSome (by simp)) fun h2 => gSome fun _ => ?_)
  obtain ⟨s, rfl⟩ := Int.eq_ofNat_of_zero_le (show 0 ≤ a1 by omega)
  obtain ⟨t, rfl⟩ := Int.eq_ofNat_of_zero_le (show 0 ≤ a2 by omega)
  obtain ⟨J, rfl⟩ := Int.eq_ofNat_of_zero_le (show 0 ≤ a3 by omega)
  obtain ⟨C, rfl⟩ := Int.eq_ofNat_of_zero_le (show 0 ≤ a4 by omega)
  simp only [not_or, Classical.not_not] at h2
  obtain ⟨⟨⟨⟨⟨⟨⟨⟨q1, q2⟩, q3⟩, q4⟩, q5⟩, q6⟩, q7⟩, q8⟩, q9⟩ := h2
  rw [dif_nat] at q7 q8
  rw [and_nat] at q9
  refine ⟨N, s, t, J, C, rfl, rfl, rfl, rfl, rfl, hG, by omega, by omega, inc_all.1 ((sub_iff_dif _ _).1 (by omega)), inc_all.1 ((sub_iff_dif _ _).1 (by omega)), (disj_iff _ _).1 (by omega)⟩

theorem gCheck_ok {N : Nat} {E : List (Int × Int)} {s t J C : Nat} (h : Pos N E s t J C) : game_Check N E s t J C = some 0 := by
  have hp8 : 2 ^ E.length ≤ 256 := pow_le8 h.g.e8
  have h8 := h.g.e8
  have hp0 := Nat.two_pow_pos E.length
  have hs := h.s
  have ht := h.t
  refine Gets.eq ?_
  unfold game_Check
  refine gBindE (gCheckGraph_ok h.g) (gIte (fun h => absurd rfl h) fun _ => ?_)
  rw [all_nat]
  refine gChk (by omega) (gIte (fun h2 => ?_) fun h2 => gSome rfl)
  exfalso
  rw [dif_nat, dif_nat, and_nat] at h2
  have z1 : dif J (2 ^ E.length - 1) = 0 := (sub_iff_dif _ _).2 (inc_all.2 h.lJ)
  have z2 : dif C (2 ^ E.length - 1) = 0 := (sub_iff_dif _ _).2 (inc_all.2 h.lC)
  have z3 : J &&& C = 0 := (disj_iff _ _).2 h.d
  rw [z1, z2, z3] at h2
  omega

theorem Tn_le {k : Nat} (h : k ≤ 8) : Tn k ≤ 109601 := by
  have : ∀ j : Fin 9, Tn j.val ≤ 109601 := by decide
  exact this ⟨k, by omega⟩
theorem memo0_ok (H : Nat → Prop) (m : Nat) : MemOK H m memo0 := fun J C w _ _ h => absurd h (by simp [memo0])

/-- Who wins. -/
abbrev Wn (N : Nat) (E : List (Int × Int)) (s t J C : Nat) (w : Bool) : Prop := Win (Hang N E s t) E.length (cnt E.length (Fr E.length J C)) J C w

theorem gJoins_ok {N : Nat} {E : List (Int × Int)} {s t J C : Nat} (h : Pos N E s t J C) (f : Bool) : Gets (game_Joins N E s t J C f) (fun r => r.2 = 0 ∧ (r.1 = true ↔ Wn N E s t J C f)) := by
  have h8 := h.g.e8
  have hc : cnt E.length (Fr E.length J C) ≤ 8 := by have := cnt_le E.length (Fr E.length J C); omega
  have hT := Tn_le hc
  unfold game_Joins
  refine gBindE (gCheck_ok h) (gIte (fun h => absurd rfl h) fun _ => ?_)
  refine gJoin (R := fun who => who = wi f) ?_ ?_
  · rintro _ rfl
    exact gBind (wins_spec h.g h.s h.t 12 _ J C f memo0 (by omega) rfl h.lJ h.lC (memo0_ok _ _) (by simp only [memo0]; omega)) fun y hy => gSome ⟨rfl, hy.1⟩
  · intro j hj
    cases f with
    | true => exact gIte (fun _ => hj _ rfl) fun h => absurd rfl h
    | false => exact gIte (fun h => absurd h (by simp)) fun _ => hj _ rfl
theorem gJoins_bad {n : Int} {E : List (Int × Int)} {a1 a2 a3 a4 c : Int} (h : game_Check n E a1 a2 a3 a4 = some c) (hc : c ≠ 0) (f : Bool) : game_Joins n E a1 a2 a3 a4 f = some (false, c) :=
  Gets.eq (by unfold game_Joins; exact gBindE h (gIte (fun _ => gSome rfl) fun h => absurd hc h))

/-- A move by which the one on the move wins. -/
def Mv (H : Nat → Prop) (m k J C : Nat) : Bool → Nat → Prop
  | true, i => Win H m k (J ||| 2 ^ i) C false
  | false, i => ¬ Win H m k J (C ||| 2 ^ i) true

theorem and_pow_ne {a i : Nat} (h : a &&& 2 ^ i ≠ 0) : a.testBit i = true := by
  cases hb : a.testBit i with
  | true => rfl
  | false =>
    obtain ⟨j, hj⟩ := exists_bit h
    rw [Nat.testBit_and, testBit_pow, Bool.and_eq_true, decide_eq_true_eq] at hj
    rw [hj.2, hj.1] at hb
    cases hb
theorem free_iff {m J C i : Nat} (hi : i < m) (h : (J ||| C) &&& 2 ^ i = 0) : (Fr m J C).testBit i = true := by
  have := bit_cases _ _ h
  rw [Nat.testBit_or] at this
  rw [testBit_Fr, this]
  simp [hi]
theorem nfree {m J C i : Nat} (h : (J ||| C).testBit i = true) : (Fr m J C).testBit i = false := by
  rw [Nat.testBit_or] at h
  rw [testBit_Fr, h]
  simp
theorem Pos.addJ {N : Nat} {E : List (Int × Int)} {s t J C i : Nat} (h : Pos N E s t J C) (hi : (Fr E.length J C).testBit i = true) : Pos N E s t (J ||| 2 ^ i) C := by
  have him : i < E.length := bit_lt (Fr_lt _ _ _) hi
  refine ⟨h.g, h.s, h.t, or_lt h.lJ (pow_lt him), h.lC, fun j hj => ?_⟩
  rw [Nat.testBit_or, Bool.or_eq_true] at hj
  rcases hj with hj | hj
  · exact h.d j hj
  · rw [testBit_pow, decide_eq_true_eq] at hj
    subst hj
    rw [testBit_Fr] at hi
    cases hc : C.testBit i <;> simp [hc] at hi ⊢
theorem Pos.addC {N : Nat} {E : List (Int × Int)} {s t J C i : Nat} (h : Pos N E s t J C) (hi : (Fr E.length J C).testBit i = true) : Pos N E s t J (C ||| 2 ^ i) := by
  have him : i < E.length := bit_lt (Fr_lt _ _ _) hi
  refine ⟨h.g, h.s, h.t, h.lJ, or_lt h.lC (pow_lt him), fun j hj => ?_⟩
  rw [Nat.testBit_or, h.d j hj, testBit_pow, Bool.false_or]
  rw [testBit_Fr] at hi
  cases hij : decide (i = j) with
  | false => rfl
  | true =>
    rw [decide_eq_true_eq] at hij
    subst hij
    rw [hj] at hi
    simp at hi

theorem gMove_ok {N : Nat} {E : List (Int × Int)} {s t J C : Nat} (h : Pos N E s t J C) (f : Bool) : Gets (game_Move N E s t J C f) (fun r =>
    (r.2 = 6 ∧ r.1 = 0 ∧ (Hang N E s t J ∨ ¬ Hang N E s t (dif (2 ^ E.length - 1) C))) ∨
    (r.2 ≠ 6 ∧ ¬ Hang N E s t J ∧ Hang N E s t (dif (2 ^ E.length - 1) C) ∧ ∃ k, cnt E.length (Fr E.length J C) = k + 1 ∧
      ((r.2 = 0 ∧ ∃ i : Nat, r.1 = i ∧ (Fr E.length J C).testBit i = true ∧ Mv (Hang N E s t) E.length k J C f i) ∨ (r.2 ≠ 0 ∧ ∀ i, (Fr E.length J C).testBit i = true → ¬ Mv (Hang N E s t) E.length k J C f i)))) := by
  have h8 := h.g.e8
  have hp8 : 2 ^ E.length ≤ 256 := pow_le8 h8
  have hp0 := Nat.two_pow_pos E.length
  unfold game_Move
  refine gBindE (gCheck_ok h) (gIte (fun h => absurd rfl h) fun _ => ?_)
  rw [all_nat]
  refine gChk (by omega) ?_
  refine gBind (hangs_spec h.g h.s h.t J) fun y1 hy1 => ?_
  rw [dif_nat]
  refine gBind (R := fun y2 => y1 = false → (y2 = true ↔ Hang N E s t (dif (2 ^ E.length - 1) C))) (gIte (fun _ => (hangs_spec h.g h.s h.t _).mono fun _ q _ => q) fun c => gSome fun e => absurd (by simp [e]) c) fun y2 hy2 => ?_
  refine gIte (fun c => gSome (.inl ⟨rfl, rfl, ?_⟩)) fun c => ?_
  · rcases c with c | c
    · exact .inl (hy1.1 c)
    · by_cases e : y1 = true
      · exact .inl (hy1.1 e)
      · exact .inr fun q => c ((hy2 (bool_ne e)).2 q)
  have c1 : ¬ y1 = true := fun e => c (.inl e)
  have c2 : y2 = true := by
    by_cases e : y2 = true
    · exact e
    · exact absurd (.inr e) c
  have hnJ : ¬ Hang N E s t J := fun q => c1 (hy1.2 q)
  have hHA := (hy2 (bool_ne c1)).1 c2
  obtain ⟨k', hk⟩ : ∃ k', cnt E.length (Fr E.length J C) = k' + 1 := by
    cases hk : cnt E.length (Fr E.length J C) with
    | zero => exact absurd (Hang_mono _ _ (Fr_none hk) hHA) hnJ
    | succ k' => exact ⟨k', rfl⟩
  have hk8 : k' ≤ 8 := by have := cnt_le E.length (Fr E.length J C); omega
  have hT := Tn_le hk8
  generalize hm : E.length = m at *
  refine gBind (R := fun z : Unit ⊕ (Int × Int) => match z with
      | .inl _ => ∀ i, (Fr m J C).testBit i = true → ¬ Mv (Hang N E s t) m k' J C f i
      | .inr r => r.2 = 0 ∧ ∃ i : Nat, r.1 = i ∧ (Fr m J C).testBit i = true ∧ Mv (Hang N E s t) m k' J C f i)
    (gFor m (fun k st => st.2 = (k : Int) ∧ MemOK (Hang N E s t) m st.1 ∧ st.1.1 ≤ k * 109601 ∧ ∀ j, j < k → (Fr m J C).testBit j = true → ¬ Mv (Hang N E s t) m k' J C f j) (Nat.zero_le _) ⟨rfl, memo0_ok _ _, by simp [memo0], none_all⟩ ?_) ?_
  · rintro k ⟨q, v1⟩ hk1 ⟨e1, e2, e3, e4⟩
    simp only at e1 e2 e3 e4 ⊢
    subst e1
    refine gIte (fun l1 => ?_) fun l1 => gSome fun i hi => e4 i (by have := bit_lt (Fr_lt m J C) hi; omega) hi
    have hkm : k < m := by omega
    refine gChk (by omega) ?_
    rw [or_nat, shl_nat, and_nat]
    have hmul : (k + 1) * 109601 = k * 109601 + 109601 := Nat.succ_mul k 109601
    have e3' : q.1 ≤ (k + 1) * 109601 := by rw [hmul]; exact Nat.le_trans e3 (Nat.le_add_right _ _)
    refine gIte (fun l2 => gSome ⟨hkm, by simp, e2, e3', step_all e4 fun hj => ?_⟩) fun l2 => ?_
    · rw [nfree (and_pow_ne (by omega))] at hj
      cases hj
    have hfree := free_iff hkm (show (J ||| C) &&& 2 ^ k = 0 by omega)
    refine gJoin (R := fun v : Memo × Bool => (v.2 = true ↔ Mv (Hang N E s t) m k' J C f k) ∧ MemOK (Hang N E s t) m v.1 ∧ v.1.1 ≤ (k + 1) * 109601) ?_ ?_
    · rintro ⟨q2, v⟩ ⟨d1, d2, d3⟩
      simp only at d1 d2 d3 ⊢
      refine gIte (fun hv => gSome ⟨rfl, k, rfl, hfree, d1.1 hv⟩) fun hv => gSome ⟨hkm, by simp, d2, d3, step_all e4 fun _ hM => hv (d1.2 hM)⟩
    · intro j hj
      have b1 : q.1 + Tn k' ≤ 1000000 := by omega
      have h2k : 2 ^ k < 2 ^ m := pow_lt hkm
      have hJm : J < 2 ^ E.length := h.lJ
      have hCm : C < 2 ^ E.length := h.lC
      cases f with
      | true =>
        refine gIte (fun _ => ?_) fun c => absurd rfl c
        rw [or_nat]
        have W := wins_spec h.g h.s h.t 12 k' (J ||| 2 ^ k) C false q (by omega) (by rw [hm]; exact Fr_cJ hfree hk) (or_lt hJm (by rw [hm]; exact h2k)) hCm (by rw [hm]; exact e2) b1
        rw [hm] at W
        refine gBind W fun y3 hy3 => ?_
        obtain ⟨d1, d2, d3⟩ := hy3
        refine gIte (fun _ => hj _ ⟨d1, d2, by simp only; omega⟩) fun c3 => gIte (fun c => absurd rfl c) fun _ => hj _ ⟨?_, d2, by simp only; omega⟩
        exact ⟨fun e => absurd e (by simp), fun e => absurd (d1.2 e) c3⟩
      | false =>
        refine gIte (fun c => absurd c (by simp)) fun _ => gIte (fun _ => ?_) fun c => absurd (by simp) c
        rw [or_nat]
        have W := wins_spec h.g h.s h.t 12 k' J (C ||| 2 ^ k) true q (by omega) (by rw [hm]; exact Fr_cC hfree hk) hJm (or_lt hCm (by rw [hm]; exact h2k)) (by rw [hm]; exact e2) b1
        rw [hm] at W
        refine gBind W fun y3 hy3 => ?_
        obtain ⟨d1, d2, d3⟩ := hy3
        refine hj _ ⟨?_, d2, by simp only; omega⟩
        simp only [decide_eq_true_eq]
        exact not_congr d1
  · rintro (u | rr) hz
    · exact gSome (.inr ⟨by simp, hnJ, hHA, k', hk, .inr ⟨by simp, hz⟩⟩)
    · exact gSome (.inr ⟨by rw [hz.1]; simp, hnJ, hHA, k', hk, .inl hz⟩)

theorem gIn_nat (s i : Nat) : rotaref_In s i = some (s.testBit i) := by
  unfold rotaref_In
  rw [chk_pos (by omega)]
  simp only [toNat_nat, shr_nat']
  congr 1
  rw [Nat.testBit_eq_decide_div_mod_eq]
  have : (((s / 2 ^ i : Nat) : Int)).tmod 2 = ((s / 2 ^ i % 2 : Nat) : Int) := rfl
  rw [this]
  rw [Bool.eq_iff_iff, decide_eq_true_eq, decide_eq_true_eq]; omega
end Go.SH
