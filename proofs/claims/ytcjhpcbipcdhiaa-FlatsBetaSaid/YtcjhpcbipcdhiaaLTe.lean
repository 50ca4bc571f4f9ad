/-
  The law FlatsBeta: the characteristic polynomial's slope at one, and CRAPO's number. Conditions: none.
-/
import Derived.Test.YtcjhpcbipcdhiaaLTb
import Derived.Test.YtcjhpcbipcdhiaaLTd
import Derived.Test.YtcjhpcbipcdhiaaLI
import Derived.Test.YtcjhpcbipcdhiaaSkFlatsBeta
set_option linter.unusedSimpArgs false
set_option linter.unusedVariables false
namespace Go.SH
open Go Go.AX

/-! ### the characteristic polynomial -/
def chr (m : Nat) (B : List Nat) : List Int :=
  if (flats m B).getD 0 0 = 0 then (List.range (rk m B (2 ^ m - 1) + 1)).map fun j => sumN (flats m B).length fun i => if rk m B (2 ^ m - 1) - rk m B ((flats m B).getD i 0) = j then mob (flats m B) i else 0
  else List.replicate (rk m B (2 ^ m - 1) + 1) 0
theorem chr_len (m : Nat) (B : List Nat) : (chr m B).length = rk m B (2 ^ m - 1) + 1 := by
  unfold chr; split <;> simp
theorem rank_ok {m : Nat} (B : List Nat) (h8 : m ≤ 8) (l0 : Int) (l2 : List Int) : flats_lattice_rank l0 l2 (cs (rkL m B)) = some ((rk m B (2 ^ m - 1) : Nat) : Int) := by
  have h256 := pow_le8 h8
  have hpos : 0 < 2 ^ m := Nat.pow_pos (by omega)
  unfold flats_lattice_rank
  simp only [cs_len, rkL_len]
  have e1 : (((2 ^ m : Nat) : Int) - 1).toNat = 2 ^ m - 1 := by omega
  rw [chk_pos (by omega), e1, cs_get, rkL_get m B (by omega)]
section
variable {m : Nat} {B : List Nat} (h : Mat m B)
include h
theorem Mat.flats_ne : 0 < (flats m B).length := by
  have hpos : 0 < 2 ^ m := Nat.pow_pos (by omega)
  have : 2 ^ m - 1 ∈ flats m B := mem_flats.2 ⟨by omega, fun i hi hb => by
    rw [Nat.testBit_two_pow_sub_one] at hb; simp [hi] at hb⟩
  have _ := h
  exact List.length_pos_of_mem this
theorem Mat.flat0 : (flats m B).getD 0 0 = 0 ↔ Flat m B 0 := by
  have hF : Fam m (flats m B) := filter_fam h.m8 _
  have hpos : 0 < 2 ^ m := Nat.pow_pos (by omega)
  constructor
  · intro e
    have := (mem_flats.1 (mem_getD.2 ⟨0, h.flats_ne, rfl⟩)).2
    rwa [e] at this
  · intro hz
    obtain ⟨k, k1, k2⟩ := mem_getD.1 (mem_flats.2 ⟨hpos, hz⟩)
    rcases Nat.eq_zero_or_pos k with c | c
    · subst c; exact k2
    · have := hF.rise 0 k c k1; omega
theorem Mat.rk_full {s : Nat} (hs : s < 2 ^ m) : rk m B s ≤ rk m B (2 ^ m - 1) := h.rk_mono fun i hi => by
  rw [Nat.testBit_two_pow_sub_one]; simpa using bit_lt hs hi
theorem Mat.Char_ok : flats_Characteristic m (cs B) = some (chr m B, 0) := by
  have h8 := h.m8
  have hF : Fam m (flats m B) := filter_fam h8 _
  have hsub : (flats m B).Sublist (List.range (2 ^ m)) := List.filter_sublist
  have hlen := hF.len
  have hne := h.flats_ne
  have hR := h.rk_size (2 ^ m - 1)
  have hR8 := cnt_le m (2 ^ m - 1)
  refine Gets.eq ?_
  unfold flats_Characteristic
  refine gBindE (flats_of_ok h) (gIte (fun q => absurd rfl q) fun _ => ?_)
  refine gBindE (rank_ok B h8 _ _) (gChk (by omega) (gChk (by simp; omega) ?_))
  have eR : (((rk m B (2 ^ m - 1) : Nat) : Int) + 1).toNat = rk m B (2 ^ m - 1) + 1 := by omega
  simp only [cs_get, eR]
  refine gIte (fun q => gSome ?_) fun q => ?_
  · unfold chr; rw [if_neg (by omega)]
  · have h0 : (flats m B).getD 0 0 = 0 := by omega
    refine gBindE (mobius_ok hF hsub _ _) ?_
    refine gBind (R := fun o => o = chr m B) (gFor (flats m B).length (fun k (x : List Int × Int) => x.2 = (k : Int) ∧ x.1.length = rk m B (2 ^ m - 1) + 1 ∧ ∀ j, j < rk m B (2 ^ m - 1) + 1 → x.1.getD j 0 = sumN k fun i => if rk m B (2 ^ m - 1) - rk m B ((flats m B).getD i 0) = j then mob (flats m B) i else 0) (Nat.zero_le _) ⟨rfl, by simp, fun j hj => by
      rw [List.getD_eq_getElem?_getD, List.getElem?_replicate]; simp [sumN, hj]⟩ ?_) fun o ho => gSome (by rw [ho])
    rintro k ⟨out, _⟩ hk ⟨rfl, i1, i2⟩
    simp only [mobL_len, cs_len, rkL_len, cs_get, toNat_nat] at i1 i2 ⊢
    refine gIte (fun h1 => gChk (by omega) ?_) fun h1 => gSome ?_
    · have hk' : k < (flats m B).length := by omega
      obtain ⟨f1, f2⟩ := mem_flats.1 (mem_getD.2 ⟨k, hk', rfl⟩)
      have hrf := h.rk_full f1
      rw [rank_ok B h8]
      simp only [Option.bind_some, rkL_get m B f1]
      have ej : (((rk m B (2 ^ m - 1) : Nat) : Int) - ((rk m B ((flats m B).getD k 0) : Nat) : Int)).toNat = rk m B (2 ^ m - 1) - rk m B ((flats m B).getD k 0) := by omega
      have hj : rk m B (2 ^ m - 1) - rk m B ((flats m B).getD k 0) < rk m B (2 ^ m - 1) + 1 := by omega
      rw [ej, i2 _ hj, mobL_get _ hk']
      have b1 := sumN_abs (n := k) (g := fun i => if rk m B (2 ^ m - 1) - rk m B ((flats m B).getD i 0) = rk m B (2 ^ m - 1) - rk m B ((flats m B).getD k 0) then mob (flats m B) i else 0) (c := 68719476736) fun i hi => by
        have := hF.mob_small hsub (i := i) (by omega)
        split <;> omega
      have b2 := hF.mob_small hsub hk'
      have b3 : (k : Int) * 68719476736 ≤ 256 * 68719476736 := Int.mul_le_mul_of_nonneg_right (by omega) (by omega)
      refine gChk ⟨by omega, by omega, by omega, by omega, by omega⟩ (gSome ⟨hk', by simp, by simp [i1], fun j hj2 => ?_⟩)
      rw [set_getD _ (by omega)]
      simp only [sumN]
      by_cases e : j = rk m B (2 ^ m - 1) - rk m B ((flats m B).getD k 0)
      · rw [if_pos e, if_pos e.symm, e]
      · rw [if_neg e, if_neg (Ne.symm e), i2 j hj2, Int.add_zero]
    · have e : k = (flats m B).length := by omega
      subst e
      refine list_ext_getD (by rw [i1, chr_len]) fun j hj => ?_
      rw [i1] at hj
      rw [i2 j hj]
      unfold chr
      rw [if_pos h0, List.getD_eq_getElem?_getD, List.getElem?_map, List.getElem?_range hj]
      rfl

/-! ### the sets, flat by flat -/
/-- What the sets come to whose closure is the i-th flat. -/
def nuA (i : Nat) : Int := sumN (2 ^ m) fun s => if IsCl m B s ((flats m B).getD i 0) then sg (cnt m s) else 0
omit h in
theorem all_sum {G : Nat} (hG : G < 2 ^ m) : sumN (2 ^ m) (fun s => if Inc s G then sg (cnt m s) else 0) = if G = 0 then 1 else 0 := by
  have hpos : 0 < 2 ^ m := Nat.pow_pos (by omega)
  rcases Nat.decEq G 0 with c | c
  · rw [if_neg c]
    obtain ⟨e, he⟩ := exists_bit c
    have hm := bit_lt hG he
    refine sumN_turned hm fun s hs => ?_
    have inc_iff : Inc (s ^^^ 2 ^ e) G ↔ Inc s G := by
      have hbit : ∀ i, (s ^^^ 2 ^ e).testBit i = (s.testBit i ^^ decide (e = i)) := fun i => by rw [Nat.testBit_xor, testBit_pow]
      constructor
      · intro k i hi
        by_cases q : e = i
        · subst q; exact he
        · exact k i (by rw [hbit, hi]; simp [q])
      · intro k i hi
        by_cases q : e = i
        · subst q; exact he
        · rw [hbit] at hi; exact k i (by simpa [q] using hi)
    by_cases q : Inc s G
    · rw [if_pos (inc_iff.2 q), if_pos q, sg_turn hm hs]
    · rw [if_neg fun x => q (inc_iff.1 x), if_neg q]; rfl
  · subst c
    rw [if_pos rfl, sumN_congr (h := fun s => if s = 0 then (1 : Int) else 0) fun s hs => ?_, sumN_single _ _ _ hpos]
    by_cases q : s = 0
    · subst q; rw [if_pos (Inc.refl 0), if_pos rfl, cnt_zero]; rfl
    · rw [if_neg fun x => q (Inc.antisymm x (inc_zero s)), if_neg q]
theorem Mat.nuA_sum {j : Nat} (hj : j < (flats m B).length) : sumN (flats m B).length (fun i => if Inc ((flats m B).getD i 0) ((flats m B).getD j 0) then nuA (m := m) (B := B) i else 0) = if (flats m B).getD j 0 = 0 then 1 else 0 := by
  obtain ⟨j1, j2⟩ := mem_flats.1 (mem_getD.2 ⟨j, hj, rfl⟩)
  rw [← all_sum j1]
  have e1 : ∀ i, i < (flats m B).length → (if Inc ((flats m B).getD i 0) ((flats m B).getD j 0) then nuA (m := m) (B := B) i else 0) = sumN (2 ^ m) (fun s => if IsCl m B s ((flats m B).getD i 0) then (if Inc s ((flats m B).getD j 0) then sg (cnt m s) else 0) else 0) := fun i hi => by
    have key : ∀ s, s < 2 ^ m → (if IsCl m B s ((flats m B).getD i 0) then (if Inc s ((flats m B).getD j 0) then sg (cnt m s) else 0) else 0) = if Inc ((flats m B).getD i 0) ((flats m B).getD j 0) then (if IsCl m B s ((flats m B).getD i 0) then sg (cnt m s) else 0) else 0 := fun s hs => by
      by_cases q : IsCl m B s ((flats m B).getD i 0)
      · have q2 := h.cl_inc_iff hs q j2
        rw [if_pos q]
        by_cases q3 : Inc s ((flats m B).getD j 0)
        · rw [if_pos q3, if_pos (q2.2 q3), if_pos q]
        · rw [if_neg q3, if_neg fun k => q3 (q2.1 k)]
      · rw [if_neg q, if_neg q]
        split <;> rfl
    rw [sumN_congr key]
    split
    · rfl
    · rw [sumN_zero]
  rw [sumN_congr e1, sumN_swap]
  refine sumN_congr fun s hs => ?_
  obtain ⟨k, k1, k2, k3⟩ := h.cl_idx hs
  exact h.cl_sum hs (fun _ => if Inc s ((flats m B).getD j 0) then sg (cnt m s) else 0) k1 k2 k3
theorem Mat.nuA_mob (h00 : Flat m B 0) : ∀ (n j : Nat), j ≤ n → j < (flats m B).length → nuA (m := m) (B := B) j = mob (flats m B) j := by
  have hF : Fam m (flats m B) := filter_fam h.m8 _
  have hpos : 0 < 2 ^ m := Nat.pow_pos (by omega)
  have hz : ∀ j, j < (flats m B).length → ((flats m B).getD j 0 = 0 ↔ j = 0) := fun j hj => by
    obtain ⟨k, k1, k2⟩ := mem_getD.1 (mem_flats.2 ⟨hpos, h00⟩)
    constructor
    · intro e
      rcases Nat.eq_zero_or_pos j with c | c
      · exact c
      · have := hF.rise 0 j c hj; omega
    · rintro rfl
      rcases Nat.eq_zero_or_pos k with c | c
      · subst c; exact k2
      · have := hF.rise 0 k c k1; omega
  have one : ∀ (j : Nat) (hl : j < (flats m B).length) (ih : ∀ i, i < j → nuA (m := m) (B := B) i = mob (flats m B) i), nuA (m := m) (B := B) j = mob (flats m B) j := fun j hl ih => by
    have h1 := h.nuA_sum hl
    have h2 := hF.weisner hl
    have e : ∀ i, i < (flats m B).length → (if Inc ((flats m B).getD i 0) ((flats m B).getD j 0) then nuA (m := m) (B := B) i else 0) = (if Inc ((flats m B).getD i 0) ((flats m B).getD j 0) then mob (flats m B) i else 0) + if i = j then nuA (m := m) (B := B) j - mob (flats m B) j else 0 := fun i hi => by
      rcases Nat.lt_trichotomy i j with q | q | q
      · rw [ih i q, if_neg (show ¬ i = j by omega), Int.add_zero]
      · subst q; rw [if_pos (Inc.refl _), if_pos (Inc.refl _), if_pos rfl]; omega
      · have : ¬ Inc ((flats m B).getD i 0) ((flats m B).getD j 0) := fun c => by have := hF.inc_idx hi hl c; omega
        rw [if_neg this, if_neg this, if_neg (show ¬ i = j by omega)]; rfl
    rw [sumN_congr e, sumN_add, sumN_single _ _ _ hl, h2] at h1
    by_cases c : j = 0
    · rw [if_pos c, if_pos ((hz j hl).2 c)] at h1; omega
    · rw [if_neg c, if_neg fun k => c ((hz j hl).1 k)] at h1; omega
  intro n
  induction n with
  | zero => exact fun j hj hl => one j hl fun i hi => absurd hi (by omega)
  | succ n ih => exact fun j hj hl => one j hl fun i hi => ih i (by omega) (by omega)
/-- The slope at one. -/
theorem Mat.slope (h00 : Flat m B 0) (h0 : 0 < m) : sumN (rk m B (2 ^ m - 1) + 1) (fun j => (j : Int) * (chr m B).getD j 0) = - bet m (rk m B) := by
  have hF : Fam m (flats m B) := filter_fam h.m8 _
  have e1 : ∀ j, j < rk m B (2 ^ m - 1) + 1 → (j : Int) * (chr m B).getD j 0 = sumN (flats m B).length (fun i => if j = rk m B (2 ^ m - 1) - rk m B ((flats m B).getD i 0) then (j : Int) * mob (flats m B) i else 0) := fun j hj => by
    unfold chr
    rw [if_pos ((h.flat0).2 h00), List.getD_eq_getElem?_getD, List.getElem?_map, List.getElem?_range hj]
    show (j : Int) * sumN _ _ = _
    rw [← sumN_mul]
    refine sumN_congr fun i hi => ?_
    by_cases q : j = rk m B (2 ^ m - 1) - rk m B ((flats m B).getD i 0)
    · rw [if_pos q.symm, if_pos q]
    · rw [if_neg (Ne.symm q), if_neg q, Int.mul_zero]
  rw [sumN_congr e1, sumN_swap]
  have e2 : ∀ i, i < (flats m B).length → sumN (rk m B (2 ^ m - 1) + 1) (fun j => if j = rk m B (2 ^ m - 1) - rk m B ((flats m B).getD i 0) then (j : Int) * mob (flats m B) i else 0) = sumN (2 ^ m) (fun s => if IsCl m B s ((flats m B).getD i 0) then sg (cnt m s) * ((rk m B (2 ^ m - 1) : Nat) - (rk m B s : Nat) : Int) else 0) := fun i hi => by
    obtain ⟨f1, f2⟩ := mem_flats.1 (mem_getD.2 ⟨i, hi, rfl⟩)
    have hle := h.rk_full f1
    have e3 : ∀ j, j < rk m B (2 ^ m - 1) + 1 → (if j = rk m B (2 ^ m - 1) - rk m B ((flats m B).getD i 0) then (j : Int) * mob (flats m B) i else 0) = if j = rk m B (2 ^ m - 1) - rk m B ((flats m B).getD i 0) then ((rk m B (2 ^ m - 1) - rk m B ((flats m B).getD i 0) : Nat) : Int) * mob (flats m B) i else 0 := fun j _ => by
      by_cases q : j = rk m B (2 ^ m - 1) - rk m B ((flats m B).getD i 0)
      · rw [if_pos q, if_pos q, ← q]
      · rw [if_neg q, if_neg q]
    rw [sumN_congr e3, sumN_single _ _ _ (by omega), ← h.nuA_mob h00 i i (Nat.le_refl _) hi]
    unfold nuA
    rw [← sumN_mul]
    refine sumN_congr fun s hs => ?_
    by_cases q : IsCl m B s ((flats m B).getD i 0)
    · have := h.cl_rk hs q
      rw [if_pos q, if_pos q, Int.mul_comm, this]
      congr 1
      omega
    · rw [if_neg q, if_neg q, Int.mul_zero]
  rw [sumN_congr e2, sumN_swap]
  have e4 : ∀ s, s < 2 ^ m → sumN (flats m B).length (fun i => if IsCl m B s ((flats m B).getD i 0) then sg (cnt m s) * ((rk m B (2 ^ m - 1) : Nat) - (rk m B s : Nat) : Int) else 0) = (rk m B (2 ^ m - 1) : Nat) * sg (cnt m s) + - (sg (cnt m s) * (rk m B s : Nat)) := fun s hs => by
    obtain ⟨k, k1, k2, k3⟩ := h.cl_idx hs
    rw [h.cl_sum hs (fun _ => sg (cnt m s) * ((rk m B (2 ^ m - 1) : Nat) - (rk m B s : Nat) : Int)) k1 k2 k3, Int.mul_sub, Int.mul_comm]
    omega
  rw [sumN_congr e4, sumN_add, sumN_mul, sumN_neg, sg_all h0, Int.mul_zero, Int.zero_add]
  rfl
theorem Mat.rkFb : RkF (rk m B) where
  zero := h.rk_zero
  mono := fun s t hs => h.rk_mono hs
  step := fun s i => by
    rcases Nat.lt_or_ge i m with c | c
    · exact h.rk_step s c
    · refine rk_le.2 fun b hb => ?_
      have e : cnt m ((s ||| 2 ^ i) &&& b) = cnt m (s &&& b) := cnt_congr fun j hj => by
        rw [Nat.testBit_and, Nat.testBit_or, Nat.testBit_and, testBit_pow, decide_eq_false (by omega), Bool.or_false]
      rw [e]
      have := le_rk (m := m) (s := s) hb
      omega
  sub := h.rk_sub
theorem Mat.conn_bet (h2 : 2 ≤ m) : bet m (rk m B) ≠ 0 ↔ Conn m (rk m B) := by
  constructor
  · intro q
    rcases Classical.em (Conn m (rk m B)) with c | c
    · exact c
    · exact absurd (h.rkFb.apart c) q
  · intro c e
    have := (RkF.beta m _ h.rkFb).2 (by omega) (fun z => by omega) c
    rw [e, Int.mul_zero] at this
    omega
/-- One component just if it does not fall apart. -/
theorem Mat.conn_one (h2 : 2 ≤ m) {K : List Nat} (k2 : Fam m K) (k3 : ∀ s, s ∈ K → ∃ v, v < m ∧ IsComp m B v s) (k4 : ∀ v, v < m → ∃ s, s ∈ K ∧ IsComp m B v s) : K.length = 1 ↔ Conn m (rk m B) := by
  constructor
  · intro hK1 S hS s0 s1
    have hone : ∀ s, s ∈ K → s = K.getD 0 0 := fun s hs => by
      obtain ⟨j, j1, rfl⟩ := mem_getD.1 hs
      have : j = 0 := by omega
      rw [this]
    rcases Nat.lt_or_ge (rk m B (2 ^ m - 1)) (rk m B S + rk m B (cpl m S)) with c | c
    · exact c
    exfalso
    have a1 := h.rk_sep hS c
    have a2 := h.rk_sep (S := cpl m S) (cpl_lt _ _) (by rw [cpl_cpl hS]; omega)
    obtain ⟨i, hi⟩ := exists_bit s0
    obtain ⟨j, hj⟩ := exists_bit s1
    obtain ⟨s, g1, g2⟩ := k4 i (bit_lt hS hi)
    obtain ⟨t, g3, g4⟩ := k4 j (bit_lt (cpl_lt _ _) hj)
    have e : s = t := (hone s g1).trans (hone t g3).symm
    subst e
    have := g4.least _ (cpl_lt _ _) a2 hj i g2.mem
    rw [cpl_bit, hi] at this
    simp at this
  · intro hc
    obtain ⟨s, g1, _⟩ := k4 0 (by omega)
    obtain ⟨j0, g2, _⟩ := mem_getD.1 g1
    rcases Nat.lt_or_ge 1 K.length with c | c
    · exfalso
      obtain ⟨v, _, hs⟩ := k3 _ (mem_getD.2 ⟨0, by omega, rfl⟩)
      obtain ⟨u, _, ht⟩ := k3 _ (mem_getD.2 ⟨1, c, rfl⟩)
      have hlt := k2.rise 0 1 (by omega) c
      have := hc _ hs.lt (fun e => by have := hs.mem; rw [e] at this; simp at this) fun e => by
        have e1 : K.getD 0 0 = 2 ^ m - 1 := by
          rw [← cpl_cpl hs.lt, e]
          exact Nat.eq_of_testBit_eq fun i => by rw [cpl_bit, full_bit]; simp
        have := ht.lt
        omega
      have := h.sep_rk hs.lt hs.sep
      omega
    · omega
theorem Mat.loop_conn (h2 : 2 ≤ m) (h00 : ¬ Flat m B 0) : ¬ Conn m (rk m B) := fun hc => h00 fun i hi hb e => by
  rw [Nat.zero_or, h.rk_zero] at e
  have c1 := hc (2 ^ i) (pow_lt hi) (by have : 0 < 2 ^ i := Nat.pow_pos (by omega); omega) fun z => by
    have hj : ∃ j, j < m ∧ i ≠ j := by
      rcases Nat.eq_zero_or_pos i with q | q
      · exact ⟨1, by omega, by omega⟩
      · exact ⟨0, by omega, by omega⟩
    obtain ⟨j, j1, j2⟩ := hj
    have : (cpl m (2 ^ i)).testBit j = true := by rw [cpl_bit, testBit_pow]; simp [j1, j2]
    rw [z] at this; simp at this
  have := h.rk_full (cpl_lt m (2 ^ i))
  omega
end
theorem Char_bad {n : Int} {l : List Int} {c : Int} (h : axioms_Check n l = some c) (h0 : c ≠ 0) : flats_Characteristic n l = some ([], c) := by
  unfold flats_Characteristic
  rw [flats_of_bad h h0, Option.bind_some, if_pos h0]

theorem Comps_bad {n : Int} {l : List Int} {c : Int} (h : axioms_Check n l = some c) (h0 : c ≠ 0) : minors_Components n l = some ([], c) := by
  have : axioms_Circuits n l = some ([], c) := by
    unfold axioms_Circuits axioms_family
    rw [h]; simp [h0]
  unfold minors_Components
  rw [this, Option.bind_some, if_pos h0]
theorem mat1T : Mat 1 [1] := by
  refine ⟨⟨by omega, fun s hs => ?_, fun i j hij hj => ?_⟩, by simp, fun a ha b hb => ?_, fun a ha b hb x h1 h2 => ?_⟩
  · have := List.mem_singleton.1 hs; omega
  · simp at hj; omega
  · rw [List.mem_singleton.1 ha, List.mem_singleton.1 hb]
  · rw [List.mem_singleton.1 ha] at h1; rw [List.mem_singleton.1 hb, h1] at h2; cases h2
theorem chr_one : chr 1 [1] = [-1, 1] := by decide +kernel
theorem chr_small {m : Nat} {B : List Nat} (h : Mat m B) (j : Nat) : -17592186044416 ≤ (chr m B).getD j 0 ∧ (chr m B).getD j 0 ≤ 17592186044416 := by
  have hF : Fam m (flats m B) := filter_fam h.m8 _
  have hsub : (flats m B).Sublist (List.range (2 ^ m)) := List.filter_sublist
  have hlen := hF.len
  unfold chr
  split
  · rcases Nat.lt_or_ge j (rk m B (2 ^ m - 1) + 1) with c | c
    · rw [List.getD_eq_getElem?_getD, List.getElem?_map, List.getElem?_range c]
      have b1 := sumN_abs (n := (flats m B).length) (g := fun i => if rk m B (2 ^ m - 1) - rk m B ((flats m B).getD i 0) = j then mob (flats m B) i else 0) (c := 68719476736) fun i hi => by
        have := hF.mob_small hsub (i := i) hi
        split <;> omega
      have b3 : ((flats m B).length : Int) * 68719476736 ≤ 256 * 68719476736 := Int.mul_le_mul_of_nonneg_right (by omega) (by omega)
      simp only [Option.map_some, Option.getD_some]
      omega
    · rw [List.getD_eq_getElem?_getD, List.getElem?_eq_none (by simp; omega)]; simp
  · rw [List.getD_eq_getElem?_getD, List.getElem?_replicate]
    split <;> simp
theorem rotakeep_FlatsBeta_law (n : Int) (l : List Int) (hl : l.length ≤ 9223372036854775807) : rotakeep_FlatsBeta n l = some true := by
  refine Gets.eq ?_
  unfold rotakeep_FlatsBeta
  refine gBindE mat1T.Char_ok ?_
  rw [chr_one]
  refine gIte (fun _ => ?_) fun q => absurd (by simp) q
  refine gBindE (Same64_self _) (gIte (fun q => absurd rfl q) fun _ => ?_)
  obtain ⟨c, hc, hs⟩ := axioms_Check_spec n l hl
  rcases hs with ⟨rfl, m, B, rfl, rfl, h⟩ | ⟨h0, _⟩
  rotate_left
  · exact gBindE (Char_bad hc h0) (gBindE (Comps_bad hc h0) (gIte (fun _ => gSome (by simp)) fun q => absurd (.inl h0) q))
  obtain ⟨K, k1, k2, k3, k4⟩ := Components_ok h
  refine gBindE h.Char_ok (gBindE k1 (gIte (fun _ => gSome (by simp)) fun q => ?_))
  have h2 : 2 ≤ m := by
    rcases Nat.lt_or_ge m 2 with c | c
    · exact absurd (.inr (by omega)) q
    · exact c
  have h8 := h.m8
  have hR := h.rk_size (2 ^ m - 1)
  have hR8 := cnt_le m (2 ^ m - 1)
  have hb := chr_small h
  have hkb : ∀ k : Nat, k < 9 → -140737488355328 ≤ (k : Int) * (chr m B).getD k 0 ∧ (k : Int) * (chr m B).getD k 0 ≤ 140737488355328 := fun k hk => by
    have := hb k
    have e1 : (k : Int) * (chr m B).getD k 0 ≤ (k : Int) * 17592186044416 := Int.mul_le_mul_of_nonneg_left this.2 (by omega)
    have e2 : (k : Int) * (-17592186044416) ≤ (k : Int) * (chr m B).getD k 0 := Int.mul_le_mul_of_nonneg_left this.1 (by omega)
    omega
  refine gBind (R := fun o => o = sumN (rk m B (2 ^ m - 1) + 1) (fun j => (j : Int) * (chr m B).getD j 0)) (gFor (rk m B (2 ^ m - 1) + 1) (fun k (x : Int × Int) => x.2 = (k : Int) ∧ x.1 = sumN k (fun j => (j : Int) * (chr m B).getD j 0)) (Nat.zero_le _) ⟨rfl, rfl⟩ ?_) ?_
  · rintro k ⟨_, _⟩ hk ⟨rfl, rfl⟩
    simp only [chr_len, toNat_nat]
    refine gIte (fun q1 => gChk (by omega) ?_) fun q1 => gSome (by have e : k = rk m B (2 ^ m - 1) + 1 := (by omega); rw [e])
    have b1 := sumN_abs (n := k) (g := fun j => (j : Int) * (chr m B).getD j 0) (c := 140737488355328) fun i hi => hkb i (by omega)
    have b2 := hkb k (by omega)
    have b3 : (k : Int) * 140737488355328 ≤ 9 * 140737488355328 := Int.mul_le_mul_of_nonneg_right (by omega) (by omega)
    exact gChk (by omega) (gSome ⟨by omega, by simp, rfl⟩)
  · rintro _ rfl
    refine gSome ?_
    simp only [cs_len, decide_eq_true_eq, true_and]
    have e1 := h.conn_one h2 k2 k3 k4
    by_cases h00 : Flat m B 0
    · rw [h.slope h00 (by omega)]
      have e2 := h.conn_bet h2
      constructor
      · intro z
        have := e1.2 (e2.1 fun w => z (by rw [w]; rfl))
        omega
      · intro z w
        exact e2.2 (e1.1 (by omega)) (by omega)
    · have e0 : chr m B = List.replicate (rk m B (2 ^ m - 1) + 1) 0 := by
        unfold chr
        rw [if_neg fun w => h00 ((h.flat0).1 w)]
      have ez : sumN (rk m B (2 ^ m - 1) + 1) (fun j => (j : Int) * (chr m B).getD j 0) = 0 := by
        rw [sumN_congr (h := fun _ => (0 : Int)) fun j hj => ?_, sumN_zero]
        rw [e0, List.getD_eq_getElem?_getD, List.getElem?_replicate]
        split <;> simp
      rw [ez]
      have := h.loop_conn h2 h00
      constructor
      · intro z; exact absurd rfl z
      · intro z
        exact absurd (e1.1 (by omega)) this
end Go.SH
