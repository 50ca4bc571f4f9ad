/-
  What is written of a set is read again, and what is read is written again. Conditions: none.
-/
import Derived.Test.YthmmjfjlnadojaaW2
set_option linter.unusedSimpArgs false
set_option linter.unusedVariables false
namespace Go.AX.Try
open Go Go.AX Go.Proofs

theorem wr5 : chk 8 5 = 0 ∧ wrT 5 = [48, 32, 50] := of_decide_eq_true (by kernel_rfl)
theorem rd_wr256 : ∀ s : Fin 256, rd (wrT s.val) = ((s.val : Int), 0, 0) := of_decide_eq_true (by kernel_rfl)
theorem chk_iff (s : Int) : chk 8 s = 0 ↔ 0 ≤ s ∧ s < 256 := by
  unfold chk; split
  · rename_i h
    have : (8 : Int).toNat = 8 := rfl
    rw [this] at h
    constructor
    · intro q; cases q
    · intro q; omega
  · rename_i h
    have : (8 : Int).toNat = 8 := rfl
    rw [this] at h
    exact ⟨fun _ => by omega, fun _ => rfl⟩
theorem rd_wr {s : Int} (h : chk 8 s = 0) : rd (wrT s) = (s, 0, 0) := by
  have hs := (chk_iff s).1 h
  have := rd_wr256 ⟨s.toNat, by omega⟩
  have e : ((s.toNat : Nat) : Int) = s := by omega
  simpa [e] using this
theorem wr_add : ∀ s : Fin 256, ∀ k : Fin 8, s.val < 2 ^ k.val → wr (ior s.val (2 ^ k.val)) 8 = (if wr s.val 8 = [] then [] else wr s.val 8 ++ [32]) ++ [48 + (k.val : Int)] := of_decide_eq_true (by kernel_rfl)
theorem ior_lt : ∀ s : Fin 256, ∀ k : Fin 8, s.val < 2 ^ k.val → ior s.val (2 ^ k.val) < 2 ^ (k.val + 1) := of_decide_eq_true (by kernel_rfl)

/-- How far a text is read. -/
structure Inv (t : List UInt8) (a : Nat) (s l : Int) : Prop where
  l1 : -1 ≤ l
  l2 : l < 8
  s1 : 0 ≤ s
  s2 : s < 2 ^ (l + 1).toNat
  z : a = 0 → wr s 8 = []
  nz : 0 < a → wr s 8 ≠ []
  txt : ((t.take a).map fun b => (b.toNat : Int)) = wr s 8 ++ (if 0 < a ∧ a % 2 = 0 then [32] else [])
theorem take_one {t : List UInt8} {a : Nat} (h : a < t.length) : (t.take (a + 1)).map (fun b => (b.toNat : Int)) = (t.take a).map (fun b => (b.toNat : Int)) ++ [((t.getD a 0).toNat : Int)] := by
  have e : (t[a]?).toList = [t.getD a 0] := by simp [List.getElem?_eq_getElem h]
  rw [List.take_add_one, e, List.map_append]
  rfl
theorem pow_mono {m n : Nat} (h : m ≤ n) : (2 : Int) ^ m ≤ 2 ^ n := by
  have := Nat.pow_le_pow_right (n := 2) (by omega) h
  exact_mod_cast this
theorem lt256 {s l : Int} (h1 : -1 ≤ l) (h2 : l < 8) (hs : s < 2 ^ (l + 1).toNat) : s < 256 := by
  have : (2 : Int) ^ (l + 1).toNat ≤ 2 ^ 8 := pow_mono (by omega)
  omega
theorem rd_go : ∀ (f a : Nat) (s l : Int) (t : List UInt8), a + f = t.length → Inv t a s l → (rdGo t f a s l).2.1 = 0 → chk 8 (rdGo t f a s l).1 = 0 ∧ wrT (rdGo t f a s l).1 = t
  | 0, a, s, l, t, ha, hi, hc => by
    simp only [rdGo] at hc ⊢
    split at hc
    · simp at hc
    · rename_i hn
      rw [if_neg hn]
      have hk : chk 8 s = 0 := (chk_iff s).2 ⟨hi.s1, lt256 hi.l1 hi.l2 hi.s2⟩
      refine ⟨hk, ?_⟩
      unfold wrT
      rw [if_pos hk]
      have := hi.txt
      rw [if_neg (by omega), List.append_nil, List.take_of_length_le (by omega)] at this
      rw [← this, List.map_map]
      exact (List.map_congr_left fun b _ => by simp).trans (List.map_id _)
  | f + 1, a, s, l, t, ha, hi, hc => by
    rw [rdGo] at hc ⊢
    by_cases h1 : a % 2 = 1
    · rw [if_pos h1] at hc ⊢
      by_cases h2 : (t.getD a 0).toNat ≠ 32 ∨ l = 7
      · rw [if_pos h2] at hc; simp at hc
      · rw [if_neg h2] at hc ⊢
        refine rd_go f (a + 1) s l t (by omega) ⟨hi.l1, hi.l2, hi.s1, hi.s2, by omega, fun _ => hi.nz (by omega), ?_⟩ hc
        rw [take_one (by omega), hi.txt, if_neg (by omega), if_pos (by omega)]
        have : (t.getD a 0).toNat = 32 := by omega
        rw [this]; simp
    · rw [if_neg h1] at hc ⊢
      by_cases h2 : ((t.getD a 0).toNat : Int) - 48 ≤ l ∨ 8 ≤ ((t.getD a 0).toNat : Int) - 48
      · rw [if_pos h2] at hc; simp at hc
      · rw [if_neg h2] at hc ⊢
        have hl1 := hi.l1
        obtain ⟨k, hk⟩ : ∃ k : Nat, ((t.getD a 0).toNat : Int) - 48 = k := ⟨(((t.getD a 0).toNat : Int) - 48).toNat, by omega⟩
        rw [hk] at hc h2 ⊢
        have hs := lt256 hi.l1 hi.l2 hi.s2
        have hsk : s < 2 ^ k := Int.lt_of_lt_of_le hi.s2 (pow_mono (by omega))
        have e : ((s.toNat : Nat) : Int) = s := by have := hi.s1; omega
        have hsn : s.toNat < 2 ^ k := by
          have : ((s.toNat : Nat) : Int) < ((2 ^ k : Nat) : Int) := by rw [e]; simpa using hsk
          omega
        have ha' := wr_add ⟨s.toNat, by omega⟩ ⟨k, by omega⟩ hsn
        have hb' := ior_lt ⟨s.toNat, by omega⟩ ⟨k, by omega⟩ hsn
        have hc' := ior_set (s := s) (k := k) hi.s1 hs (by omega) (by omega)
        simp only [e] at ha' hb'
        simp only [Int.toNat_natCast] at hc' hc ⊢
        refine rd_go f (a + 1) _ k t (by omega) ⟨by omega, by omega, hc'.1, ?_, by omega, fun _ => by rw [ha']; simp, ?_⟩ hc
        · have : ((k : Int) + 1).toNat = k + 1 := by omega
          rw [this]; exact hb'
        · rw [take_one (by omega), hi.txt, ha', if_neg (c := 0 < a + 1 ∧ _) (by omega)]
          have hkk : ((t.getD a 0).toNat : Int) = 48 + k := by omega
          rw [hkk]
          by_cases hz : a = 0
          · rw [if_neg (by omega), if_pos (hi.z hz), hi.z hz]
            simp
          · rw [if_pos (by omega), if_neg (hi.nz (by omega))]
            simp
theorem wr_rd {t : List UInt8} (h : (rd t).2.1 = 0) : chk 8 (rd t).1 = 0 ∧ wrT (rd t).1 = t :=
  rd_go t.length 0 0 (-1) t (by omega) ⟨by omega, by omega, by omega, by decide, fun _ => of_decide_eq_true (by kernel_rfl), fun h => by omega, by simp; exact of_decide_eq_true (by kernel_rfl)⟩ h
theorem wr_bad {s : Int} (h : ¬ chk 8 s = 0) : wrT s = [] := if_neg h

end Go.AX.Try
