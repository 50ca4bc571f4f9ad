/-
  The law JoinCovers: as few sets cover all as the densest one needs. Conditions: none.
-/
import Derived.Test.YtkjfccdfmjnkbaaLCv
import Derived.Test.YtkjfccdfmjnkbaaSprotaref
import Derived.Test.YtkjfccdfmjnkbaaSkJoinCovers
set_option linter.unusedSimpArgs false
set_option linter.unusedVariables false
namespace Go.SH
open Go Go.AX

theorem full_incC {m s : Nat} (hs : s < 2 ^ m) : Inc s (2 ^ m - 1) := fun i hi => by rw [full_bit, decide_eq_true_eq]; exact bit_lt hs hi
theorem pow_ne (i : Nat) : 2 ^ i ≠ 0 := by have : 0 < 2 ^ i := Nat.pow_pos (by omega); omega
theorem cnt_one {m i : Nat} (hi : i < m) : cnt m (2 ^ i) = 1 := by
  have := cnt_add (m := m) (s := 0) hi (by simp)
  rw [cnt_zero, Nat.zero_or] at this; omega
theorem ranks_okJ {m : Nat} {B : List Nat} (h : Mat m B) : join_ranks m (cs B) = some (cs (rkL m B)) := by
  unfold join_ranks
  rw [axioms_Ranks_ok h]; rfl
section
variable {m : Nat} {B : List Nat} (h : Mat m B)
include h
theorem Mat.singles (hn : ∀ i, i < m → rk m B (2 ^ i) ≠ 0) : Cv (rk m B) (2 ^ m - 1) m := by
  have h8 := h.m8
  have hp8 : 2 ^ m ≤ 2 ^ 8 := Nat.pow_le_pow_right (by omega) h8
  refine ⟨(List.range m).map (2 ^ ·), by simp, fun t ht => ?_, fun i hi => ⟨2 ^ i, List.mem_map.2 ⟨i, List.mem_range.2 (bit_lt (full_lt m) hi), rfl⟩, by rw [testBit_pow]; simp⟩⟩
  obtain ⟨i, hi, rfl⟩ := List.mem_map.1 ht
  rw [List.mem_range] at hi
  have hl : 2 ^ i < 2 ^ m := pow_lt hi
  have h1 := hn i hi
  have h2 := h.rk_size (2 ^ i)
  rw [cnt_one hi] at h2
  rw [cnt8 h8 hl, cnt_one hi]
  omega
theorem Cover_spec : Gets (join_Cover m (cs B)) (fun r => (r = ([], 5) ∧ ∃ i, i < m ∧ rk m B (2 ^ i) = 0) ∨ ∃ P, r = (cs P, 0) ∧ (∀ i, i < m → rk m B (2 ^ i) ≠ 0) ∧ Parts (rk m B) (2 ^ m - 1) P ∧ P.length ≤ m ∧ ∀ k, k < P.length → ¬ Cv (rk m B) (2 ^ m - 1) k) := by
  have h8 := h.m8
  have h256 := pow_le8 h8
  have hfl := full_lt m
  have hp : 0 < 2 ^ m := Nat.pow_pos (by omega)
  unfold join_Cover
  refine gBindE h.check (gIte (fun q => absurd rfl q) fun _ => gBindE (ranks_okJ h) ?_)
  refine gBind (R := fun z => match z with | .inl _ => ∀ i, i < m → rk m B (2 ^ i) ≠ 0 | .inr r => r = ([], 5) ∧ ∃ i, i < m ∧ rk m B (2 ^ i) = 0) (gFor m (fun k x => x = (k : Int) ∧ ∀ i, i < k → rk m B (2 ^ i) ≠ 0) (Nat.zero_le _) ⟨rfl, fun i hi => absurd hi (by omega)⟩ ?_) ?_
  · rintro k _ hk ⟨rfl, hI⟩
    simp only [toNat_nat, shl_nat', cs_len, rkL_len, cs_get]
    refine gIte (fun h1 => ?_) fun h1 => gSome fun i hi => hI i (by omega)
    have hk' : k < m := by omega
    have hl : 2 ^ k < 2 ^ m := pow_lt hk'
    have hl0 : 0 < 2 ^ k := Nat.pow_pos (by omega)
    rw [rkL_get m B hl]
    refine gChk ⟨by omega, by omega⟩ (gIte (fun q => gSome ⟨rfl, k, hk', by omega⟩) fun q => gSome ⟨hk', by simp, fun i hi => ?_⟩)
    rcases Nat.lt_succ_iff_lt_or_eq.1 hi with c | c
    · exact hI i c
    · subst c; omega
  · rintro (u | rr) hz
    rotate_left
    · exact gSome (.inl hz)
    have hn : ∀ i, i < m → rk m B (2 ^ i) ≠ 0 := hz
    have hall := h.singles hn
    have e1 : ((2 ^ m : Nat) : Int) - 1 = ((2 ^ m - 1 : Nat) : Int) := by omega
    refine gBind (R := fun r => ∃ P, r = (cs P, 0) ∧ Parts (rk m B) (2 ^ m - 1) P ∧ P.length ≤ m ∧ ∀ k, k < P.length → ¬ Cv (rk m B) (2 ^ m - 1) k) (gFor m (fun k x => x = (k : Int) ∧ ∀ k', k' < k → ¬ Cv (rk m B) (2 ^ m - 1) k') (Nat.zero_le _) ⟨rfl, fun i hi => absurd hi (by omega)⟩ ?_) ?_
    · rintro k _ hk ⟨rfl, hI⟩
      simp only [toNat_nat, shl_nat', e1]
      refine gChk ⟨by omega, by omega⟩ ?_
      refine gBind (split_spec h 12 (2 ^ m - 1) k hfl (by have := cnt_le 8 (2 ^ m - 1); omega) (by omega)) ?_
      rintro y (⟨P, rfl, p1, p2⟩ | ⟨rfl, hno⟩)
      · rw [optM_some]
        exact gSome ⟨P, rfl, p1, by omega, fun k' hk' => hI k' (by omega)⟩
      · rw [optM_none]
        refine gChk (by omega) (gSome ⟨?_, by simp, fun k' hk' => ?_⟩)
        · rcases Nat.lt_or_ge k m with c | c
          · exact c
          · have : k = m := by omega
            rw [this] at hno
            exact absurd hall hno
        · rcases Nat.lt_succ_iff_lt_or_eq.1 hk' with c | c
          · exact hI k' c
          · subst c; exact hno
    · rintro _ ⟨P, rfl, p1, p2, p3⟩
      exact gSome (.inr ⟨P, rfl, hn, p1, p2, p3⟩)
/-- How many free sets a set needs. -/
def upw (m : Nat) (B : List Nat) (s : Nat) : Nat := (cnt m s + rk m B s - 1) / rk m B s
omit h in
theorem upw_le {s M : Nat} (h0 : rk m B s ≠ 0) : upw m B s ≤ M ↔ cnt m s ≤ M * rk m B s := by
  unfold upw
  have hp : 0 < rk m B s := by omega
  have e1 : (M + 1) * rk m B s = M * rk m B s + rk m B s := by rw [Nat.add_mul, Nat.one_mul]
  have e : (cnt m s + rk m B s - 1) / rk m B s < M + 1 ↔ cnt m s + rk m B s - 1 < (M + 1) * rk m B s := Nat.div_lt_iff_lt_mul hp
  rw [e1] at e
  constructor
  · intro q
    have := e.1 (by omega)
    omega
  · intro q
    have := e.2 (by omega)
    omega
theorem Dense_spec : Gets (join_Dense m (cs B)) (fun r => (r = (0, 5) ∧ ∃ s, s < 2 ^ m ∧ s ≠ 0 ∧ rk m B s = 0) ∨ ∃ d : Nat, r = ((d : Int), 0) ∧ d < 2 ^ m ∧ (∀ s, s < 2 ^ m → s ≠ 0 → rk m B s ≠ 0) ∧ (d = 0 → m = 0) ∧ ∀ s, s < 2 ^ m → s ≠ 0 → upw m B s ≤ upw m B d) := by
  have h8 := h.m8
  have h256 := pow_le8 h8
  have hfl := full_lt m
  have hp : 0 < 2 ^ m := Nat.pow_pos (by omega)
  unfold join_Dense
  refine gBindE h.check (gIte (fun q => absurd rfl q) fun _ => gBindE (ranks_okJ h) ?_)
  simp only [cs_len, rkL_len, cs_get]
  refine gBind (R := fun z => match z with | .inl b => ∃ d : Nat, b = (d : Int) ∧ d < 2 ^ m ∧ (∀ s, s < 2 ^ m → s ≠ 0 → rk m B s ≠ 0) ∧ (d = 0 → m = 0) ∧ ∀ s, s < 2 ^ m → s ≠ 0 → upw m B s ≤ upw m B d | .inr r => r = (0, 5) ∧ ∃ s, s < 2 ^ m ∧ s ≠ 0 ∧ rk m B s = 0)
    (gFor (2 ^ m) (fun k (x : Int × Int × Int) => x.2.2 = (k : Int) ∧ 0 < k ∧ (∀ s, s < k → s ≠ 0 → rk m B s ≠ 0) ∧ ((k = 1 ∧ x.1 = 0 ∧ x.2.1 = 0) ∨ ∃ d : Nat, x.1 = (d : Int) ∧ d < k ∧ d ≠ 0 ∧ x.2.1 = ((upw m B d : Nat) : Int) ∧ ∀ s, s < k → s ≠ 0 → upw m B s ≤ upw m B d)) (k0 := 1) (by omega) ⟨rfl, by omega, fun s h1 h2 => by omega, .inl ⟨rfl, rfl, rfl⟩⟩ ?_) ?_
  · rintro k ⟨best, most, _⟩ hk ⟨rfl, hk0, hn, hS⟩
    simp only at hS
    simp only [toNat_nat]
    refine gIte (fun h1 => ?_) fun h1 => ?_
    · have hk' : k < 2 ^ m := by omega
      simp only [rkL_get m B hk']
      have hsz := h.rk_size k
      have hcm := cnt_le m k
      refine gChk (by omega) (gIte (fun q => gSome ⟨rfl, k, hk', by omega, by omega⟩) fun q => ?_)
      have hr0 : rk m B k ≠ 0 := by omega
      have e1 : join_size (k : Int) = some ((cnt m k : Nat) : Int) := by rw [join_size_nat (by omega), size_of_lt hk' h8]
      refine gBindE e1 ?_
      have e2 : (((cnt m k : Nat) : Int) + (rk m B k : Int)) - 1 = ((cnt m k + rk m B k - 1 : Nat) : Int) := by omega
      have e3 : Int.tdiv ((cnt m k + rk m B k - 1 : Nat) : Int) (rk m B k : Int) = ((upw m B k : Nat) : Int) := rfl
      have hub : upw m B k ≤ cnt m k := (upw_le hr0).2 (Nat.le_mul_of_pos_right _ (by omega))
      have hn' : ∀ s, s < k + 1 → s ≠ 0 → rk m B s ≠ 0 := fun s h1 h2 => by
        rcases Nat.lt_succ_iff_lt_or_eq.1 h1 with c | c
        · exact hn s c h2
        · subst c; exact hr0
      rw [e2, e3]
      refine gChk ⟨by omega, by omega, by omega, by omega, by omega⟩ (gIte (fun q2 => ?_) fun q2 => gSome ⟨hk', by simp, by omega, hn', .inr ?_⟩)
      · refine gBindE e1 ?_
        rw [e2, e3]
        refine gChk ⟨by omega, by omega, by omega, by omega, by omega⟩ (gSome ⟨hk', by simp, by omega, hn', .inr ⟨k, rfl, by omega, by omega, rfl, fun s h1 h2 => ?_⟩⟩)
        rcases Nat.lt_succ_iff_lt_or_eq.1 h1 with c | c
        · rcases hS with ⟨z, _⟩ | ⟨d, _, d1, d2, d3, d4⟩
          · omega
          · have := d4 s c h2; omega
        · subst c; exact Nat.le_refl _
      · rcases hS with ⟨z, z1, z2⟩ | ⟨d, d0, d1, d2, d3, d4⟩
        · have h1c : 0 < cnt m k := by
            obtain ⟨i, hi⟩ := exists_bit (c := k) (by omega)
            exact cnt_pos hk' hi
          have : ¬ upw m B k ≤ 0 := fun q => by
            have := (upw_le hr0).1 q
            omega
          omega
        · refine ⟨d, d0, by omega, d2, d3, fun s h1 h2 => ?_⟩
          rcases Nat.lt_succ_iff_lt_or_eq.1 h1 with c | c
          · exact d4 s c h2
          · subst c; omega
    · have e : k = 2 ^ m := by omega
      subst e
      rcases hS with ⟨z, z1, z2⟩ | ⟨d, d0, d1, d2, d3, d4⟩
      · refine gSome ⟨0, z1, by omega, hn, fun _ => ?_, fun s h1 h2 => by omega⟩
        rcases Nat.eq_zero_or_pos m with c | c
        · exact c
        · have := pow_lt c
          omega
      · exact gSome ⟨d, d0, d1, hn, fun q => absurd q d2, d4⟩
  · rintro (b | rr) hz
    · obtain ⟨d, rfl, hd⟩ := hz
      exact gSome (.inr ⟨d, rfl, hd⟩)
    · exact gSome (.inl hz)
end
theorem Up_nat {a b : Nat} (hb : 0 < b) (ha : a ≤ 256) (hb2 : b ≤ 256) : rotaref_Up (a : Int) (b : Int) = some (((a + b - 1) / b : Nat) : Int) := by
  have e1 : Int.tdiv (a : Int) (b : Int) = ((a / b : Nat) : Int) := rfl
  have hd := Nat.div_add_mod a b
  have hm := Nat.mod_lt a hb
  have hle := Nat.div_le_self a b
  have hmul : ((a / b : Nat) : Int) * (b : Int) = ((b * (a / b) : Nat) : Int) := by rw [Nat.mul_comm]; simp
  have e0 : a / b * b = b * (a / b) := Nat.mul_comm ..
  have e2 : (a / b + 1) * b = b * (a / b) + b := by rw [Nat.add_mul, Nat.one_mul, Nat.mul_comm]
  have e3 : (a / b + 1 + 1) * b = b * (a / b) + b + b := by rw [Nat.add_mul, Nat.one_mul, e2]
  refine Gets.eq ?_
  unfold rotaref_Up
  rw [e1, hmul]
  generalize hx : b * (a / b) = x at *
  generalize hy : a / b = y at *
  generalize hz : a % b = z at *
  have c1 : x < a → (a + b - 1) / b = y + 1 := fun q => Nat.div_eq_of_lt_le (by omega) (by omega)
  have c2 : ¬ x < a → (a + b - 1) / b = y := fun q => Nat.div_eq_of_lt_le (by omega) (by omega)
  refine gChk (by omega) (gChk (by omega) (gIte (fun q => gChk (by omega) (gSome ?_)) fun q => gSome ?_))
  · rw [c1 (by omega)]; omega
  · rw [c2 (by omega)]
end Go.SH
