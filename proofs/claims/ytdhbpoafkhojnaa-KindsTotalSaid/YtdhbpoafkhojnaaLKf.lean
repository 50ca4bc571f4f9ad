/-
  Matrices as the code checks them; the columns' sets that do not hang on one another, as the code finds them. Conditions: none.
-/
import Derived.Test.YtdhbpoafkhojnaaLKe
import Derived.Test.YtdhbpoafkhojnaaSpkindsm
set_option linter.unusedSimpArgs false
set_option linter.unusedVariables false
set_option linter.unusedSectionVars false
namespace Go.SH
open Go Go.AX

/-- A matrix. -/
def CM (P C : Int) (X : List (List Int)) : Prop := (P = 2 ∨ P = 3 ∨ P = 5 ∨ P = 7) ∧ 0 ≤ C ∧ C ≤ 8 ∧ X.length ≤ 6 ∧ ∀ i, i < X.length → ((X.getD i []).length : Int) = C ∧ ∀ j, j < (X.getD i []).length → 0 ≤ ent X i j ∧ ent X i j < P
theorem CM.elim {P C : Int} {X : List (List Int)} (h : CM P C X) : ∃ (p n : Nat) (_ : NeZero p), P = p ∧ C = n ∧ n ≤ 8 ∧ p ≤ 7 ∧ Fld p ∧ X.length ≤ 6 ∧ MOk p X.length n X := by
  obtain ⟨h1, h2, h3, h4, h5⟩ := h
  obtain ⟨n, rfl⟩ : ∃ n : Nat, C = n := ⟨C.toNat, by omega⟩
  have ok : ∀ p : Nat, P = p → MOk p X.length n X := fun p hp => by
    subst hp
    exact ⟨rfl, fun i hi => by have := (h5 i hi).1; omega, fun i hi j hj => (h5 i hi).2 j (by have := (h5 i hi).1; omega)⟩
  rcases h1 with e | e | e | e <;> subst e
  · exact ⟨2, n, inferInstance, rfl, rfl, by omega, by omega, fld2, h4, ok 2 rfl⟩
  · exact ⟨3, n, inferInstance, rfl, rfl, by omega, by omega, fld3, h4, ok 3 rfl⟩
  · exact ⟨5, n, inferInstance, rfl, rfl, by omega, by omega, fld5, h4, ok 5 rfl⟩
  · exact ⟨7, n, inferInstance, rfl, rfl, by omega, by omega, fld7, h4, ok 7 rfl⟩
theorem CM.of {p n : Nat} (hp : p = 2 ∨ p = 3 ∨ p = 5 ∨ p = 7) (hn : n ≤ 8) {r : Nat} (hr : r ≤ 6) {X : List (List Int)} (hX : MOk p r n X) : CM p n X :=
  ⟨by omega, by omega, by omega, by rw [hX.len]; exact hr, fun i hi => by
    rw [hX.len] at hi
    have := hX.row i hi
    exact ⟨by omega, fun j hj => hX.bd i hi j (by omega)⟩⟩
theorem CheckMatrix_spec (P C : Int) (X : List (List Int)) : Gets (kinds_CheckMatrix P C X) (fun e => (e = 0 ∨ e = 1) ∧ (e = 0 ↔ CM P C X)) := by
  unfold kinds_CheckMatrix
  refine gIte (fun h1 => gSome ⟨.inr rfl, fun h => by omega, fun h => ?_⟩) fun h1 => ?_
  · obtain ⟨a, b, c, d, _⟩ := h
    omega
  have hb : (P = 2 ∨ P = 3 ∨ P = 5 ∨ P = 7) ∧ 0 ≤ C ∧ C ≤ 8 ∧ X.length ≤ 6 := ⟨by omega, by omega, by omega, by omega⟩
  refine gBind (R := fun z : Unit ⊕ Int => match z with | .inl _ => CM P C X | .inr e => e = 1 ∧ ¬ CM P C X) (gFor X.length (fun i (v : Int) => v = (i : Int) ∧ ∀ a, a < i → ((X.getD a []).length : Int) = C ∧ ∀ j, j < (X.getD a []).length → 0 ≤ ent X a j ∧ ent X a j < P) (Nat.zero_le _) ⟨rfl, fun a ha => by omega⟩ ?_) ?_
  · rintro i v hi ⟨rfl, h2⟩
    refine gIte (fun h3 => ?_) fun h3 => ?_
    rotate_left
    · have e : i = X.length := by omega
      subst e
      exact gSome ⟨hb.1, hb.2.1, hb.2.2.1, hb.2.2.2, h2⟩
    have hil : i < X.length := by omega
    refine gChk ⟨by omega, by omega⟩ ?_
    simp only [toNat_nat]
    refine gIte (fun h4 => gSome ⟨rfl, fun h => h4 (h.2.2.2.2 i hil).1⟩) fun h4 => ?_
    refine gBind (R := fun z : Unit ⊕ Int => match z with | .inl _ => ∀ j, j < (X.getD i []).length → 0 ≤ ent X i j ∧ ent X i j < P | .inr e => e = 1 ∧ ¬ CM P C X) (gFor (X.getD i []).length (fun j (v : Int) => v = (j : Int) ∧ ∀ b, b < j → 0 ≤ ent X i b ∧ ent X i b < P) (Nat.zero_le _) ⟨rfl, fun b hb => by omega⟩ ?_) ?_
    · rintro j v hj ⟨rfl, h5⟩
      refine gIte (fun h6 => ?_) fun h6 => ?_
      rotate_left
      · have e : j = (X.getD i []).length := by omega
        subst e
        exact gSome h5
      have hjl : j < (X.getD i []).length := by omega
      refine gChk ⟨by omega, by omega⟩ ?_
      simp only [toNat_nat]
      have ee : (X.getD i []).getD j 0 = ent X i j := rfl
      refine gIte (fun h7 => gSome ⟨rfl, fun h => ?_⟩) fun h7 => ?_
      · have := (h.2.2.2.2 i hil).2 j hjl
        rw [ee] at h7
        omega
      · rw [ee] at h7
        refine gSome ⟨hjl, by simp, fun b hb' => ?_⟩
        rcases Nat.lt_succ_iff_lt_or_eq.1 hb' with q | q
        · exact h5 b q
        · subst q; omega
    · rintro (_ | e) hz
      · refine gSome ⟨hil, by simp, fun a ha => ?_⟩
        rcases Nat.lt_succ_iff_lt_or_eq.1 ha with q | q
        · exact h2 a q
        · subst q; exact ⟨by omega, hz⟩
      · exact gSome hz
  · rintro (_ | e) hz
    · exact gSome ⟨.inl rfl, fun _ => hz, fun _ => rfl⟩
    · obtain ⟨rfl, hz⟩ := hz
      exact gSome ⟨.inr rfl, fun h => by omega, fun h => absurd h hz⟩

section
variable {p : Nat} [NeZero p]
/-- Columns that do not hang on one another. -/
def ColInd (p : Nat) [NeZero p] (r n : Nat) (X : List (List Int)) (s : Nat) : Prop := ∀ v : Nat → Fin p, Ker r n (MF p X) v → (∀ j, j < n → s.testBit j = false → v j = 0) → ∀ j, j < n → v j = 0
theorem cnt_up (s : Nat) {a b : Nat} (h : a ≤ b) : cnt a s ≤ cnt b s := by
  obtain ⟨d, rfl⟩ : ∃ d, b = a + d := ⟨b - a, by omega⟩
  clear h
  induction d with
  | zero => exact Nat.le_refl _
  | succ d ih => exact Nat.le_trans ih (Nat.le_add_right _ _)
theorem elm_at {s : Nat} : ∀ {n j : Nat}, j < n → s.testBit j = true → (elm n s).getD (cnt j s) 0 = j
  | 0, j, h, _ => by omega
  | n + 1, j, h, hb => by
    rw [elm_succ]
    rcases Nat.lt_succ_iff_lt_or_eq.1 h with q | q
    · have ih := elm_at (n := n) q hb
      have hl : cnt j s < (elm n s).length := by
        rw [elm_len]
        have h1 : cnt (j + 1) s ≤ cnt n s := cnt_up s (by omega)
        rw [cnt, if_pos hb] at h1
        omega
      by_cases c : s.testBit n = true
      · rw [if_pos c, List.getD_eq_getElem?_getD, List.getElem?_append_left hl, ← List.getD_eq_getElem?_getD]; exact ih
      · rw [if_neg c]; exact ih
    · subst q
      rw [if_pos hb, List.getD_eq_getElem?_getD, List.getElem?_append_right (by rw [elm_len]; exact Nat.le_refl _), elm_len, Nat.sub_self]; rfl
theorem elm_bit {n s k : Nat} (hk : k < cnt n s) : s.testBit ((elm n s).getD k 0) = true := by
  have hl : k < (elm n s).length := by rw [elm_len]; exact hk
  rw [List.getD_eq_getElem?_getD, List.getElem?_eq_getElem hl]
  have := List.getElem_mem hl
  unfold elm at this
  exact (List.mem_filter.1 this).2
theorem elm_idx {s : Nat} : ∀ {n k : Nat}, k < cnt n s → cnt ((elm n s).getD k 0) s = k
  | 0, k, h => by simp [cnt] at h
  | n + 1, k, h => by
    rw [elm_succ]
    rw [cnt] at h
    by_cases c : s.testBit n = true
    · rw [if_pos c] at h ⊢
      rcases Nat.lt_succ_iff_lt_or_eq.1 h with q | q
      · rw [List.getD_eq_getElem?_getD, List.getElem?_append_left (by rw [elm_len]; exact q), ← List.getD_eq_getElem?_getD]; exact elm_idx q
      · subst q
        rw [List.getD_eq_getElem?_getD, List.getElem?_append_right (by rw [elm_len]; exact Nat.le_refl _), elm_len, Nat.sub_self]; rfl
    · rw [if_neg c] at h ⊢
      exact elm_idx (by omega)
theorem colInd_iff {r n : Nat} {X : List (List Int)} {s : Nat} : (∀ v, Ker r (cnt n s) (MF p (cols n s X r)) v → ∀ j, j < cnt n s → v j = 0) ↔ ColInd p r n X s := by
  have sum : ∀ (i : Nat), i < r → ∀ (v w : Nat → Fin p), (∀ k, k < cnt n s → w k = v ((elm n s).getD k 0)) → (∀ j, j < n → s.testBit j = false → v j = 0) → Sm (cnt n s) (fun k => MF p (cols n s X r) i k * w k) = Sm n (fun j => MF p X i j * v j) := fun i hi v w hw hv => by
    rw [Sm_congr (g := fun k => MF p X i ((elm n s).getD k 0) * v ((elm n s).getD k 0)) (fun k hk => by rw [hw k hk]; unfold MF; rw [cols_ent hi hk]), Sm_elm s (fun j => MF p X i j * v j) n]
    refine Sm_congr fun j hj => ?_
    by_cases c : s.testBit j = true
    · rw [if_pos c]
    · rw [if_neg c, hv j hj (by simpa using c)]; exact (z1 _).symm
  constructor
  · intro h v hk hv j hj
    cases c : s.testBit j with
    | false => exact hv j hj c
    | true =>
      have := h (fun k => v ((elm n s).getD k 0)) (fun i hi => by rw [sum i hi v _ (fun _ _ => rfl) hv]; exact hk i hi) (cnt j s) (by
        have h2 : cnt (j + 1) s ≤ cnt n s := cnt_up s (by omega)
        rw [cnt, if_pos c] at h2
        omega)
      rw [← elm_at hj c]; exact this
  · intro h w hk k hk2
    have hv := h (fun j => if s.testBit j = true then w (cnt j s) else 0) (fun i hi => by
      rw [← sum i hi _ w (fun k hk => by simp only [elm_bit hk, if_true, elm_idx hk]) (fun j hj c => by simp [c])]
      exact hk i hi) (fun j hj c => by simp [c]) _ (elm_lt hk2)
    simpa only [elm_bit hk2, if_true, elm_idx hk2] using hv
theorem colInd0 {r n : Nat} {X : List (List Int)} : ColInd p r n X 0 := fun v _ h j hj => h j hj (by simp)
/-- The sets of columns that the code finds. -/
theorem Linear_spec (hp : Fld p) (h7 : p ≤ 7) {r n : Nat} {X : List (List Int)} (hX : MOk p r n X) (hr6 : r ≤ 6) (hn8 : n ≤ 8) (hc : CM p n X) : Gets (kinds_Linear p n X) (fun y => ∃ K, y = ((n : Int), cs K, 0) ∧ Fam n K ∧ ∀ s, s ∈ K ↔ s < 2 ^ n ∧ ColInd p r n X s ∧ ∀ t, t < 2 ^ n → ColInd p r n X t → cnt n t ≤ cnt n s) := by
  unfold kinds_Linear
  refine gBind (CheckMatrix_spec p n X) ?_
  rintro e ⟨h1, h2⟩
  rw [h2.2 hc]
  refine gIte (fun h => absurd rfl h) fun _ => ?_
  refine gBind (greatest_spec hn8 (p := fun s => ColInd p r n X s) (fun s hs => ?_) colInd0) ?_
  · unfold kinds_Linear_1
    refine gBind (rankOf_elim hp h7 hX hr6 hn8 hs n) fun k hk => ?_
    have hs8 : s < 256 := Nat.lt_of_lt_of_le hs (pow_le8 hn8)
    have hsz : kinds_size (s : Int) = some ((cnt n s : Nat) : Int) := by rw [kinds_size_nat hs8, size_of_lt hs hn8]
    refine gBindE hsz (gSome ?_)
    rw [decide_eq_true_eq, hk]
    exact colInd_iff
  · rintro y ⟨K, rfl, hF, hK⟩
    exact gSome ⟨K, rfl, hF, hK⟩
end
end Go.SH
