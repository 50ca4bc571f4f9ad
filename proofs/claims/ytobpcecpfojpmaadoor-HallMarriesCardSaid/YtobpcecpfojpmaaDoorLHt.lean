/-
  Elements that stand for sets, as a matroid: what kinds.Transversal gives; HALL, KOENIG: the statement HallMarries as a plain law. Conditions: lists are no longer than 2^63 - 1.
-/
import Derived.Test.YtobpcecpfojpmaaDoorLHs
import Derived.Test.YtobpcecpfojpmaaDoorSkHallMarries
set_option linter.unusedSimpArgs false
set_option linter.unusedVariables false
namespace Go.SH
open Go Go.AX

theorem and_pow_ne {a i : Nat} : a &&& 2 ^ i ≠ 0 ↔ a.testBit i = true := by
  constructor
  · intro h
    cases q : a.testBit i with
    | true => rfl
    | false =>
      exact absurd ((disj_iff _ _).2 fun j hj => by
        rw [testBit_pow]
        rcases Classical.em (i = j) with c | c
        · subst c; rw [q] at hj; cases hj
        · simp [c]) h
  · intro h e
    have := (disj_iff _ _).1 e i h
    rw [testBit_pow] at this
    simp at this
theorem SDR_step {L : List Nat} {s used i : Nat} (hi : s.testBit i = true) : SDR L s used ↔ ∃ j, j < L.length ∧ used.testBit j = false ∧ (L.getD j 0).testBit i = true ∧ SDR L (dif s (2 ^ i)) (used ||| 2 ^ j) := by
  have hb : ∀ x, (dif s (2 ^ i)).testBit x = true ↔ s.testBit x = true ∧ x ≠ i := fun x => by
    rw [testBit_dif, testBit_pow, Bool.and_eq_true, Bool.not_eq_true', decide_eq_false_iff_not]
    exact and_congr Iff.rfl ⟨fun h e => h e.symm, fun h e => h e.symm⟩
  constructor
  · rintro ⟨f, f1, f2⟩
    obtain ⟨a, b, c⟩ := f1 i hi
    refine ⟨f i, a, b, c, f, fun x hx => ?_, fun x y hx hy e => f2 x y ((hb x).1 hx).1 ((hb y).1 hy).1 e⟩
    obtain ⟨x1, x2⟩ := (hb x).1 hx
    obtain ⟨a', b', c'⟩ := f1 x x1
    refine ⟨a', ?_, c'⟩
    rw [Nat.testBit_or, b', testBit_pow, Bool.false_or, decide_eq_false_iff_not]
    exact fun e => x2 (f2 i x hi x1 e).symm
  · rintro ⟨j, j1, j2, j3, f, f1, f2⟩
    have hf : ∀ x, s.testBit x = true → x ≠ i → f x < L.length ∧ used.testBit (f x) = false ∧ j ≠ f x ∧ (L.getD (f x) 0).testBit x = true := fun x hx hxi => by
      obtain ⟨a, b, c⟩ := f1 x ((hb x).2 ⟨hx, hxi⟩)
      rw [Nat.testBit_or, Bool.or_eq_false_iff, testBit_pow, decide_eq_false_iff_not] at b
      exact ⟨a, b.1, b.2, c⟩
    refine ⟨fun x => if x = i then j else f x, fun x hx => ?_, fun x y hx hy e => ?_⟩
    · by_cases c : x = i
      · subst c; simp only [if_true]; exact ⟨j1, j2, j3⟩
      · simp only [if_neg c]
        obtain ⟨a, b, _, d⟩ := hf x hx c
        exact ⟨a, b, d⟩
    · by_cases c : x = i
      · by_cases d : y = i
        · rw [c, d]
        · simp only [if_pos c, if_neg d] at e
          exact absurd e (hf y hy d).2.2.1
      · by_cases d : y = i
        · simp only [if_pos d, if_neg c] at e
          exact absurd e.symm (hf x hx c).2.2.1
        · simp only [if_neg c, if_neg d] at e
          exact f2 x y ((hb x).2 ⟨hx, c⟩) ((hb y).2 ⟨hy, d⟩) e
theorem chosen1_spec {m : Nat} {L : List Nat} (h : HOk m L) : ∀ (fuel s used : Nat), s < 2 ^ 8 → used < 2 ^ 8 → cnt 8 s < fuel → Gets (kinds_chosen_1 fuel s used (cs L)) (fun b => b = true ↔ SDR L s used)
  | 0, _, _, _, _, h0 => absurd h0 (by omega)
  | fuel + 1, s, used, hs, hu, hc => by
    have hl8 := h.l8
    rw [kinds_chosen_1.eq_2]
    refine gIte (fun q => gSome ⟨fun _ => ?_, fun _ => rfl⟩) fun q => ?_
    · have : s = 0 := by omega
      subst this
      exact ⟨fun _ => 0, fun x hx => by simp at hx, fun x y hx => by simp at hx⟩
    have hlow := low_spec (t := s) hs (by omega)
    generalize lo1 s = i at hlow
    have hi := bit_lt hs hlow.bit
    simp only [hlow.neg, cs_len, dif_nat]
    refine gChk (by omega) (gBind (R := fun z => match z with | .inl _ => ¬ SDR L s used | .inr b => b = true ∧ SDR L s used) (gFor L.length (fun k v => v = (k : Int) ∧ ∀ j, j < k → ¬ (used.testBit j = false ∧ (L.getD j 0).testBit i = true ∧ SDR L (dif s (2 ^ i)) (used ||| 2 ^ j))) (Nat.zero_le _) ⟨rfl, none_all⟩ ?_) ?_)
    · rintro k _ hk ⟨rfl, hI⟩
      simp only [toNat_nat, shl_nat', bitI, cs_get, and_nat, or_nat]
      refine gIte (fun h1 => gChk (by omega) (gChk ⟨by omega, fun _ => by omega⟩ ?_)) fun h1 => gSome fun hz => ?_
      · have hk' : k < L.length := by omega
        have e1 : ((if used.testBit k = true then (1 : Int) else 0) = 0 ∧ (((L.getD k 0 &&& 2 ^ i : Nat) : Int)) ≠ 0) ↔ (used.testBit k = false ∧ (L.getD k 0).testBit i = true) := by
          refine and_congr ?_ ?_
          · cases used.testBit k <;> simp
          · rw [← and_pow_ne]; omega
        refine gIte (fun h2 => ?_) fun h2 => gSome ⟨hk', by simp, step_all hI fun z => h2 (e1.2 ⟨z.1, z.2.1⟩)⟩
        obtain ⟨h3, h4⟩ := e1.1 h2
        have hcd := cnt_dif (m := 8) hs hlow.bit
        refine gBind (chosen1_spec h fuel (dif s (2 ^ i)) (used ||| 2 ^ k) (dif_lt hs) (or_lt hu (pow_lt (by omega))) (by omega)) fun b hb => ?_
        exact gIte (fun h5 => gSome ⟨rfl, (SDR_step hlow.bit).2 ⟨k, hk', h3, h4, hb.1 h5⟩⟩) fun h5 => gSome ⟨hk', by simp, step_all hI fun z => h5 (hb.2 z.2.2)⟩
      · obtain ⟨j, j1, j2, j3, j4⟩ := (SDR_step hlow.bit).1 hz
        exact hI j (by omega) ⟨j2, j3, j4⟩
    · rintro (u | b) hz
      · exact gSome ⟨fun q => absurd q (by simp), fun q => absurd q hz⟩
      · exact gSome ⟨fun _ => hz.2, fun _ => hz.1⟩
theorem Transversal1_spec {m : Nat} {L : List Nat} (h : HOk m L) {s : Nat} (hs : s < 2 ^ m) : Gets (kinds_Transversal_1 (s : Int) (cs L)) (fun b => b = true ↔ SDR L s 0) := by
  unfold kinds_Transversal_1 kinds_chosen
  have h8 : s < 2 ^ 8 := Nat.lt_of_lt_of_le hs (Nat.pow_le_pow_right (by omega) h.n8)
  have hc := cnt_le 8 s
  exact gBind (gBind (chosen1_spec h 12 s 0 h8 (by omega) (by omega)) fun b hb => gSome hb) fun b hb => gSome hb
theorem Transversal_spec {m : Nat} {L : List Nat} (h : HOk m L) : Gets (kinds_Transversal m (cs L)) (fun r => ∃ K, r = ((m : Int), cs K, 0) ∧ ∀ s, s ∈ K ↔ s < 2 ^ m ∧ SDR L s 0 ∧ ∀ t, t < 2 ^ m → SDR L t 0 → cnt m t ≤ cnt m s) := by
  have hm8 := h.n8
  have hl8 := h.l8
  unfold kinds_Transversal
  refine gIte (fun q => absurd q (by omega)) fun _ => ?_
  refine gBind (R := fun z => match z with | .inl _ => True | .inr r => False) (gFor L.length (fun k v => v = (k : Int)) (Nat.zero_le _) rfl ?_) ?_
  · rintro k _ hk rfl
    simp only [toNat_nat, shl_nat', cs_len, cs_get]
    refine gIte (fun h1 => gChk (by omega) (gChk (fun _ => by omega) (gIte (fun q => ?_) fun q => gSome ⟨by omega, by simp⟩))) fun h1 => gSome trivial
    have := h.lt k (by omega)
    omega
  · rintro (u | r) hz
    · refine gIte (fun q => absurd q (by rw [cs_len]; omega)) fun _ => ?_
      refine gBind (greatest_spec (p := fun s => SDR L s 0) hm8 (fun s hs => Transversal1_spec h hs) ⟨fun _ => 0, fun x hx => by simp at hx, fun x y hx => by simp at hx⟩) ?_
      rintro _ ⟨K, rfl, _, hK⟩
      exact gSome ⟨K, rfl, hK⟩
    · exact hz.elim
end Go.SH
