/-
  Uniform matroids: what the code computes. Conditions: matroids of at most eight elements.
-/
import Derived.Test.YtobpcecpfojpmaaDoorLA
import Derived.Test.YtobpcecpfojpmaaDoorLRj
import Derived.Test.YtobpcecpfojpmaaDoorSpkinds
set_option linter.unusedSimpArgs false
set_option linter.unusedVariables false
namespace Go.SH
open Go Go.AX

def uniL (m k : Nat) : List Nat := (List.range (2 ^ m)).filter fun s => cnt m s = k
theorem mem_uniL {m k s : Nat} : s ∈ uniL m k ↔ s < 2 ^ m ∧ cnt m s = k := by simp [uniL]
theorem uniL_fam {m : Nat} (h8 : m ≤ 8) (k : Nat) : Fam m (uniL m k) := filter_fam h8 _
theorem uni_up {m k s : Nat} (hs : s < 2 ^ m) (hc : cnt m s = k) (hk : k < m) : ∃ i, i < m ∧ s.testBit i = false ∧ s ||| 2 ^ i ∈ uniL m (k + 1) := by
  obtain ⟨i, hi, hb⟩ : ∃ i, i < m ∧ s.testBit i = false := by
    rcases Classical.em (∃ i, i < m ∧ s.testBit i = false) with c | c
    · exact c
    · have : cnt m (2 ^ m - 1) ≤ cnt m s := cnt_mono fun i hi _ => by
        cases q : s.testBit i with
        | true => rfl
        | false => exact absurd ⟨i, hi, q⟩ c
      have e : cnt m (2 ^ m - 1) = m := by
        have := cpl_cnt (m := m) (s := 0)
        rw [cnt_zero] at this
        have e2 : cpl m 0 = 2 ^ m - 1 := Nat.eq_of_testBit_eq fun i => by rw [cpl_bit, full_bit]; simp
        rw [e2] at this; omega
      omega
  exact ⟨i, hi, hb, mem_uniL.2 ⟨or_lt hs (pow_lt hi), by rw [cnt_add hi hb, hc]⟩⟩
theorem uni_ne {m : Nat} : ∀ k, k ≤ m → ∃ s, s ∈ uniL m k
  | 0, _ => ⟨0, mem_uniL.2 ⟨Nat.pow_pos (by omega), cnt_zero m⟩⟩
  | k + 1, h => by
    obtain ⟨s, hs⟩ := uni_ne (m := m) k (by omega)
    obtain ⟨h1, h2⟩ := mem_uniL.1 hs
    obtain ⟨i, _, _, h3⟩ := uni_up h1 h2 (by omega)
    exact ⟨_, h3⟩
theorem cnt_swap {m a x y : Nat} (ha : a < 2 ^ m) (hy : y < m) (h1 : a.testBit x = true) (h2 : a.testBit y = false) : cnt m (dif a (2 ^ x) ||| 2 ^ y) = cnt m a := by
  have hxy : (dif a (2 ^ x)).testBit y = false := by rw [testBit_dif, h2]; rfl
  rw [cnt_add hy hxy, cnt_dif ha h1]
theorem uni_mat {m k : Nat} (h8 : m ≤ 8) (hk : k ≤ m) : Mat m (uniL m k) where
  toFam := uniL_fam h8 k
  ne := fun q => by obtain ⟨s, hs⟩ := uni_ne k hk; rw [q] at hs; cases hs
  eqc := fun a ha b hb => by rw [(mem_uniL.1 ha).2, (mem_uniL.1 hb).2]
  ex := fun a ha b hb x h1 h2 => by
    obtain ⟨a1, a2⟩ := mem_uniL.1 ha
    obtain ⟨b1, b2⟩ := mem_uniL.1 hb
    have : ¬ Inc b a := fun q => by
      have := inc_eq_of_cnt q a1 (by omega)
      subst this; rw [h1] at h2; cases h2
    obtain ⟨y, y1, y2⟩ := not_inc this
    have hy := bit_lt b1 y1
    exact ⟨y, y1, y2, mem_uniL.2 ⟨or_lt (dif_lt a1) (pow_lt hy), by rw [cnt_swap a1 hy h1 y2, a2]⟩⟩
theorem uni_ind {m k s : Nat} (hs : s < 2 ^ m) (hc : cnt m s ≤ k) (hk : k ≤ m) : Ind (uniL m k) s := by
  obtain ⟨d, hd⟩ : ∃ d, k = cnt m s + d := ⟨k - cnt m s, by omega⟩
  induction d generalizing s with
  | zero => exact ⟨s, mem_uniL.2 ⟨hs, by omega⟩, Inc.refl s⟩
  | succ d ih =>
    obtain ⟨i, hi, hb, h3⟩ := uni_up hs rfl (by omega : cnt m s < m)
    obtain ⟨h4, h5⟩ := mem_uniL.1 h3
    exact (ih h4 (by omega) (by omega)).mono (inc_or_l _ _)
theorem UChoose_ok {m k : Nat} (h8 : m ≤ 8) (hk : k ≤ m) : sets_Choose m k = some (cs (uniL m k), 0) := by
  have h256 := pow_le8 h8
  refine Gets.eq ?_
  unfold sets_Choose
  refine gIte (fun q => by omega) fun _ => ?_
  simp only [toNat_nat, shl_nat']
  refine gChk (by omega) (gBind (R := fun o => o = cs (uniL m k)) (gFor (2 ^ m) (fun B (x : List Int × Int) => x.2 = (B : Int) ∧ x.1 = cs ((List.range B).filter fun s => cnt m s = k)) (Nat.zero_le _) ⟨rfl, rfl⟩ ?_) fun o ho => gSome (by rw [ho]))
  rintro B ⟨_, _⟩ hB ⟨rfl, rfl⟩
  refine gIte (fun h1 => ?_) fun h1 => gSome (by have e : B = 2 ^ m := by omega
                                                 subst e; rfl)
  have hB' : B < 2 ^ m := by omega
  have hl : ((List.range B).filter fun s => cnt m s = k).length ≤ B := Nat.le_trans (List.length_filter_le _ _) (by simp)
  refine gChk (by omega) (gBindE (show bits_OnesCount (B : Int) = some ((size B : Nat) : Int) by simp [bits_OnesCount, oc_size (show B < 256 by omega)]) ?_)
  rw [size_of_lt hB' h8]
  refine gIte (fun c => gChk (by rw [List.length_append, cs_len]; simp only [List.length_cons, List.length_nil]; omega) (gSome ⟨hB', by simp, ?_⟩)) fun c => gSome ⟨hB', by simp, ?_⟩
  · have c' : cnt m B = k := by omega
    rw [List.range_succ, List.filter_append, cs_app]; simp [c']
  · have c' : ¬ cnt m B = k := by omega
    rw [List.range_succ, List.filter_append]; simp [c']
theorem Uniform_spec (k n : Int) : Gets (kinds_Uniform k n) (fun r => (∃ m j : Nat, n = (m : Int) ∧ k = (j : Int) ∧ m ≤ 8 ∧ j ≤ m ∧ r = ((m : Int), cs (uniL m j), 0)) ∨ r = (0, [], 1)) := by
  unfold kinds_Uniform
  rcases Classical.em (((n < 0 ∨ 8 < n) ∨ k < 0) ∨ n < k) with c | c
  · have : sets_Choose n k = some ([], 1) := by unfold sets_Choose; rw [if_pos c]
    exact gBindE this (gIte (fun _ => gSome (.inr rfl)) fun q => absurd (by simp) q)
  · obtain ⟨m, rfl⟩ := Int.eq_ofNat_of_zero_le (show 0 ≤ n by omega)
    obtain ⟨j, rfl⟩ := Int.eq_ofNat_of_zero_le (show 0 ≤ k by omega)
    exact gBindE (UChoose_ok (by omega) (by omega)) (gIte (fun q => absurd rfl q) fun _ => gSome (.inl ⟨m, j, rfl, rfl, by omega, by omega, rfl⟩))
theorem Uniform_ok {m j : Nat} (h8 : m ≤ 8) (hj : j ≤ m) : kinds_Uniform (j : Int) (m : Int) = some ((m : Int), cs (uniL m j), 0) := by
  unfold kinds_Uniform
  rw [UChoose_ok h8 hj]; rfl


theorem uni_rk {m s : Nat} (h8 : m ≤ 8) (hs : s < 2 ^ m) : rk m (uniL m m) s = cnt m s := ((uni_mat h8 (Nat.le_refl m)).ind_iff hs).1 (uni_ind hs (cnt_le m s) (Nat.le_refl m))
end Go.SH
