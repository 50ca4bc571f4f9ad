/-
  Uniform matroids: what the code computes. Conditions: matroids of at most eight elements.
-/
import Derived.Test.YtabhcjpjoknihaaLA
import Derived.Test.YtabhcjpjoknihaaLRm
set_option linter.unusedSimpArgs false
set_option linter.unusedVariables false
namespace Go.SH
open Go Go.AX

def uniL (m k : Nat) : List Nat := (List.range (2 ^ m)).filter fun s => cnt m s = k
theorem mem_uniL {m k s : Nat} : s ∈ uniL m k ↔ s < 2 ^ m ∧ cnt m s = k := by simp [uniL]
theorem uniL_fam {m : Nat} (h8 : m ≤ 8) (k : Nat) : Fam m (uniL m k) := filter_fam h8 _
theorem uni_up {m k s : Nat} (hs : s < 2 ^ m) (hc : cnt m s = k) (hk : k < m) : ∃ i, i < m ∧ s.testBit i = false ∧ s ||| 2 ^ i ∈ uniL m (k + 1) := by
  obtain ⟨i, hi, hb⟩ : ∃ i, i < m ∧ s.testBit i = false := by
    rcases Classical.em (∃ i, i < m ∧ s.testBit i = false) with c | c
    · exact c
    · have : cnt m (2 ^ m - 1) ≤ cnt m s := cnt_mono fun i hi _ => by
        cases q : s.testBit i with
        | true => rfl
        | false => exact absurd ⟨i, hi, q⟩ c
      have e : cnt m (2 ^ m - 1) = m := by
        have := cpl_cnt (m := m) (s := 0)
        rw [cnt_zero] at this
        have e2 : cpl m 0 = 2 ^ m - 1 := Nat.eq_of_testBit_eq fun i => by rw [cpl_bit, full_bit]; simp
        rw [e2] at this; omega
      omega
  exact ⟨i, hi, hb, mem_uniL.2 ⟨or_lt hs (pow_lt hi), by rw [cnt_add hi hb, hc]⟩⟩
theorem uni_ne {m : Nat} : ∀ k, k ≤ m → ∃ s, s ∈ uniL m k
  | 0, _ => ⟨0, mem_uniL.2 ⟨Nat.pow_pos (by omega), cnt_zero m⟩⟩
  | k + 1, h => by
    obtain ⟨s, hs⟩ := uni_ne (m := m) k (by omega)
    obtain ⟨h1, h2⟩ := mem_uniL.1 hs
    obtain ⟨i, _, _, h3⟩ := uni_up h1 h2 (by omega)
    exact ⟨_, h3⟩
theorem cnt_swap {m a x y : Nat} (ha : a < 2 ^ m) (hy : y < m) (h1 : a.testBit x = true) (h2 : a.testBit y = false) : cnt m (dif a (2 ^ x) ||| 2 ^ y) = cnt m a := by
  have hxy : (dif a (2 ^ x)).testBit y = false := by rw [testBit_dif, h2]; rfl
  rw [cnt_add hy hxy, cnt_dif ha h1]
theorem uni_mat {m k : Nat} (h8 : m ≤ 8) (hk : k ≤ m) : Mat m (uniL m k) where
  toFam := uniL_fam h8 k
  ne := fun q => by obtain ⟨s, hs⟩ := uni_ne k hk; rw [q] at hs; cases hs
  eqc := fun a ha b hb => by rw [(mem_uniL.1 ha).2, (mem_uniL.1 hb).2]
  ex := fun a ha b hb x h1 h2 => by
    obtain ⟨a1, a2⟩ := mem_uniL.1 ha
    obtain ⟨b1, b2⟩ := mem_uniL.1 hb
    have : ¬ Inc b a := fun q => by
      have := inc_eq_of_cnt q a1 (by omega)
      subst this; rw [h1] at h2; cases h2
    obtain ⟨y, y1, y2⟩ := not_inc this
    have hy := bit_lt b1 y1
    exact ⟨y, y1, y2, mem_uniL.2 ⟨or_lt (dif_lt a1) (pow_lt hy), by rw [cnt_swap a1 hy h1 y2, a2]⟩⟩
end Go.SH
