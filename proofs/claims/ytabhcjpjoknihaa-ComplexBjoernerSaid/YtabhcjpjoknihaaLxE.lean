/-
  Package tutte as it computes: what is active. Conditions: none.
-/
import Derived.Test.YtabhcjpjoknihaaLxB
import Derived.Test.YtabhcjpjoknihaaLTt
import Derived.Test.YtabhcjpjoknihaaLUd
import Derived.Test.YtabhcjpjoknihaaSprotakeep
set_option linter.unusedSimpArgs false
set_option linter.unusedVariables false
namespace Go.SH
open Go Go.AX

theorem bit01 (s i : Nat) : iand ((s : Int) / ((2 ^ i : Nat) : Int)) 1 = if s.testBit i = true then 1 else 0 := by
  have := bit_nat s i
  rw [shr_nat] at this
  rw [show (s : Int) / ((2 ^ i : Nat) : Int) = ((s / 2 ^ i : Nat) : Int) from rfl]
  exact this
theorem mkset_succ (k : Nat) (p : Nat → Bool) : mkset (k + 1) p = mkset k p ||| (if p k = true then 2 ^ k else 0) := rfl
/-- Package tutte as it computes: what is active. -/
theorem Activities_ok {m : Nat} {B : List Nat} (h : Mat m B) {b : Nat} (hb : b ∈ B) : tutte_Activities m (cs B) b = some (((ia m B b : Nat) : Int), ((ea m B b : Nat) : Int), 0) := by
  have h8 := h.m8
  have hlen := h.toFam.len
  refine Gets.eq ?_
  unfold tutte_Activities
  rw [h.check]
  simp only [Option.bind_some, cs_len, cs_get]
  refine gIte (fun q => absurd rfl q) fun _ => ?_
  refine gBind (R := fun v : MemoB => ∀ x : Nat, (v.2 (x : Int) = true ↔ x ∈ B)) (gFor B.length (fun k (x : MemoB × Int) => x.2 = (k : Int) ∧ x.1.1 = k ∧ ∀ y : Nat, (x.1.2 (y : Int) = true ↔ ∃ j, j < k ∧ B.getD j 0 = y)) (Nat.zero_le _) ⟨rfl, rfl, fun y => ⟨fun q => Bool.noConfusion q, fun ⟨j, hj, _⟩ => absurd hj (Nat.not_lt_zero j)⟩⟩ ?_) fun v hv => ?_
  · rintro k ⟨v, _⟩ hk ⟨rfl, h1, h2⟩
    simp only at h1 h2 ⊢
    refine gIte (fun c => ?_) fun c => gSome fun x => ?_
    · refine gChk (by omega) (gChk (by omega) (gSome ⟨by omega, by omega, by simp only; omega, fun y => ?_⟩))
      simp only [toNat_nat, putB]
      by_cases d : (y : Int) = ((B.getD k 0 : Nat) : Int)
      · rw [if_pos d]
        exact ⟨fun _ => ⟨k, by omega, by omega⟩, fun _ => rfl⟩
      · rw [if_neg d, h2]
        constructor
        · rintro ⟨j, j1, j2⟩; exact ⟨j, by omega, j2⟩
        · rintro ⟨j, j1, j2⟩
          rcases Nat.lt_succ_iff_lt_or_eq.1 j1 with e | e
          · exact ⟨j, e, j2⟩
          · subst e; exact absurd (by rw [j2]) d
    · have e : k = B.length := by omega
      subst e
      rw [h2, mem_getD]
  refine gIte (fun q => absurd ((hv b).2 hb) q) fun _ => ?_
  refine gBind (R := fun o => o = (((ia m B b : Nat) : Int), ((ea m B b : Nat) : Int))) (gFor m (fun k (x : Int × Int × Int) => x = (((mkset k fun i => b.testBit i && decide (Act B b i) : Nat) : Int), ((mkset k fun i => !b.testBit i && decide (Act B b i) : Nat) : Int), (k : Int))) (Nat.zero_le _) rfl ?_) fun o ho => gSome (by rw [ho])
  rintro i _ hi rfl
  simp only [toNat_nat, shl_nat', xor_nat, bit01]
  refine gIte (fun c1 => ?_) fun c1 => gSome (by have : i = m := (by omega); subst this; rfl)
  have hi' : i < m := by omega
  refine gBind (R := fun o => o = decide (Act B b i)) (gFor i (fun k (x : Bool × Int) => x.2 = (k : Int) ∧ (x.1 = true ↔ ∀ j, j < k → b.testBit i ≠ b.testBit j → b ^^^ 2 ^ i ^^^ 2 ^ j ∉ B)) (Nat.zero_le _) ⟨rfl, ⟨fun _ => none_all, fun _ => rfl⟩⟩ ?_) fun o ho => ?_
  · rintro j ⟨v8, _⟩ hj ⟨rfl, h1⟩
    simp only [toNat_nat, shl_nat', xor_nat, bit01] at h1 ⊢
    refine gIte (fun c2 => gChk ⟨by omega, by omega, fun _ => by omega, fun _ => by omega⟩ (gIte (fun c3 => gSome ⟨by omega, by simp, ⟨fun q => (by cases q), fun q => ?_⟩⟩) fun c3 => gSome ⟨by omega, by simp, ?_⟩)) fun c2 => gSome ?_
    · exfalso
      obtain ⟨d1, d2⟩ := c3
      refine q j (by omega) (fun e => d1 (by rw [e])) ((hv _).1 d2)
    · rw [h1]
      constructor
      · exact fun q => step_all q fun e e2 => c3 ⟨fun w => e (by
          cases z : b.testBit i <;> cases z2 : b.testBit j <;> simp [z, z2] at w ⊢), (hv _).2 e2⟩
      · exact fun q k hk => q k (by omega)
    · have e : j = i := by omega
      subst e
      show v8 = decide (Act B b j)
      rw [Bool.eq_iff_iff, h1, decide_eq_true_eq]
      exact Iff.rfl
  · subst ho
    by_cases d : Act B b i
    · refine gIte (fun q => absurd (decide_eq_true d) q) fun _ => gChk (by omega) ?_
      cases z : b.testBit i with
      | true =>
        rw [if_pos rfl, if_pos rfl]
        refine gChk (by omega) (gSome ⟨hi', ?_⟩)
        rw [or_nat, mkset_succ, mkset_succ]
        simp only [z, d, decide_true, Bool.and_self, Bool.not_true, Bool.false_and, if_true, Bool.false_eq_true, if_false, Nat.or_zero]
        rfl
      | false =>
        rw [if_neg (by simp)]
        refine gChk (by omega) (gSome ⟨hi', ?_⟩)
        rw [or_nat, mkset_succ, mkset_succ]
        simp only [z, d, decide_true, Bool.and_self, Bool.not_false, Bool.false_and, if_true, Bool.false_eq_true, if_false, Nat.or_zero]
        rfl
    · refine gIte (fun _ => gSome ⟨hi', ?_⟩) fun q => absurd (decide_eq_false d) (by simpa using q)
      rw [mkset_succ, mkset_succ]
      simp only [d, decide_false, Bool.and_false, Bool.false_eq_true, if_false, Nat.or_zero]
      rfl
theorem two_eqU : rotakeep_two = some (((4 : Nat) : Int), cs (uniL 4 2)) := by
  rw [show uniL 4 2 = [3, 5, 6, 9, 10, 12] from by decide +kernel]; rfl
end Go.SH
