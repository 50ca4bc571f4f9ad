/-
  Uniform matroids, truncations, a free element more: what the code computes. Conditions: matroids of at most eight elements.
-/
import Derived.Test.YtkjfccdfmjnkbaaLQ
import Derived.Test.YtkjfccdfmjnkbaaSpkinds
import Derived.Test.YtkjfccdfmjnkbaaSprotalaw
set_option linter.unusedSimpArgs false
set_option linter.unusedVariables false
namespace Go.SH
open Go Go.AX

theorem SameU (l : List Int) : rotalaw_Same_int l l = some true := by
  refine Gets.eq ?_
  unfold rotalaw_Same_int
  refine gIte (fun q => absurd rfl q) fun _ => gBind (R := fun z => match z with | .inl _ => True | .inr r => False) (gFor l.length (fun k v => v = (k : Int)) (Nat.zero_le _) rfl ?_) ?_
  · rintro k _ hk rfl
    exact gIte (fun h1 => gChk (by omega) (gIte (fun q => absurd rfl q) fun _ => gSome ⟨by omega, by simp⟩)) fun _ => gSome trivial
  · rintro (u | rr) hz
    · exact gSome rfl
    · exact hz.elim
theorem SameMU (n : Int) (l : List Int) : rotalaw_SameMatroid n l n l = some true := by
  unfold rotalaw_SameMatroid
  rw [if_pos rfl, SameU]; simp
def uniL (m k : Nat) : List Nat := (List.range (2 ^ m)).filter fun s => cnt m s = k
theorem mem_uniL {m k s : Nat} : s ∈ uniL m k ↔ s < 2 ^ m ∧ cnt m s = k := by simp [uniL]
theorem uniL_fam {m : Nat} (h8 : m ≤ 8) (k : Nat) : Fam m (uniL m k) := filter_fam h8 _
theorem uni_up {m k s : Nat} (hs : s < 2 ^ m) (hc : cnt m s = k) (hk : k < m) : ∃ i, i < m ∧ s.testBit i = false ∧ s ||| 2 ^ i ∈ uniL m (k + 1) := by
  obtain ⟨i, hi, hb⟩ : ∃ i, i < m ∧ s.testBit i = false := by
    rcases Classical.em (∃ i, i < m ∧ s.testBit i = false) with c | c
    · exact c
    · have : cnt m (2 ^ m - 1) ≤ cnt m s := cnt_mono fun i hi _ => by
        cases q : s.testBit i with
        | true => rfl
        | false => exact absurd ⟨i, hi, q⟩ c
      have e : cnt m (2 ^ m - 1) = m := by
        have := cpl_cnt (m := m) (s := 0)
        rw [cnt_zero] at this
        have e2 : cpl m 0 = 2 ^ m - 1 := Nat.eq_of_testBit_eq fun i => by rw [cpl_bit, full_bit]; simp
        rw [e2] at this; omega
      omega
  exact ⟨i, hi, hb, mem_uniL.2 ⟨or_lt hs (pow_lt hi), by rw [cnt_add hi hb, hc]⟩⟩
theorem uni_ne {m : Nat} : ∀ k, k ≤ m → ∃ s, s ∈ uniL m k
  | 0, _ => ⟨0, mem_uniL.2 ⟨Nat.pow_pos (by omega), cnt_zero m⟩⟩
  | k + 1, h => by
    obtain ⟨s, hs⟩ := uni_ne (m := m) k (by omega)
    obtain ⟨h1, h2⟩ := mem_uniL.1 hs
    obtain ⟨i, _, _, h3⟩ := uni_up h1 h2 (by omega)
    exact ⟨_, h3⟩
theorem cnt_swap {m a x y : Nat} (ha : a < 2 ^ m) (hy : y < m) (h1 : a.testBit x = true) (h2 : a.testBit y = false) : cnt m (dif a (2 ^ x) ||| 2 ^ y) = cnt m a := by
  have hxy : (dif a (2 ^ x)).testBit y = false := by rw [testBit_dif, h2]; rfl
  rw [cnt_add hy hxy, cnt_dif ha h1]
theorem uni_mat {m k : Nat} (h8 : m ≤ 8) (hk : k ≤ m) : Mat m (uniL m k) where
  toFam := uniL_fam h8 k
  ne := fun q => by obtain ⟨s, hs⟩ := uni_ne k hk; rw [q] at hs; cases hs
  eqc := fun a ha b hb => by rw [(mem_uniL.1 ha).2, (mem_uniL.1 hb).2]
  ex := fun a ha b hb x h1 h2 => by
    obtain ⟨a1, a2⟩ := mem_uniL.1 ha
    obtain ⟨b1, b2⟩ := mem_uniL.1 hb
    have : ¬ Inc b a := fun q => by
      have := inc_eq_of_cnt q a1 (by omega)
      subst this; rw [h1] at h2; cases h2
    obtain ⟨y, y1, y2⟩ := not_inc this
    have hy := bit_lt b1 y1
    exact ⟨y, y1, y2, mem_uniL.2 ⟨or_lt (dif_lt a1) (pow_lt hy), by rw [cnt_swap a1 hy h1 y2, a2]⟩⟩
theorem uni_ind {m k s : Nat} (hs : s < 2 ^ m) (hc : cnt m s ≤ k) (hk : k ≤ m) : Ind (uniL m k) s := by
  obtain ⟨d, hd⟩ : ∃ d, k = cnt m s + d := ⟨k - cnt m s, by omega⟩
  induction d generalizing s with
  | zero => exact ⟨s, mem_uniL.2 ⟨hs, by omega⟩, Inc.refl s⟩
  | succ d ih =>
    obtain ⟨i, hi, hb, h3⟩ := uni_up hs rfl (by omega : cnt m s < m)
    obtain ⟨h4, h5⟩ := mem_uniL.1 h3
    exact (ih h4 (by omega) (by omega)).mono (inc_or_l _ _)
theorem UChoose_ok {m k : Nat} (h8 : m ≤ 8) (hk : k ≤ m) : sets_Choose m k = some (cs (uniL m k), 0) := by
  have h256 := pow_le8 h8
  refine Gets.eq ?_
  unfold sets_Choose
  refine gIte (fun q => by omega) fun _ => ?_
  simp only [toNat_nat, shl_nat']
  refine gChk (by omega) (gBind (R := fun o => o = cs (uniL m k)) (gFor (2 ^ m) (fun B (x : List Int × Int) => x.2 = (B : Int) ∧ x.1 = cs ((List.range B).filter fun s => cnt m s = k)) (Nat.zero_le _) ⟨rfl, rfl⟩ ?_) fun o ho => gSome (by rw [ho]))
  rintro B ⟨_, _⟩ hB ⟨rfl, rfl⟩
  refine gIte (fun h1 => ?_) fun h1 => gSome (by have e : B = 2 ^ m := by omega
                                                 subst e; rfl)
  have hB' : B < 2 ^ m := by omega
  have hl : ((List.range B).filter fun s => cnt m s = k).length ≤ B := Nat.le_trans (List.length_filter_le _ _) (by simp)
  refine gChk (by omega) (gBindE (show bits_OnesCount (B : Int) = some ((size B : Nat) : Int) by simp [bits_OnesCount, oc_size (show B < 256 by omega)]) ?_)
  rw [size_of_lt hB' h8]
  refine gIte (fun c => gChk (by rw [List.length_append, cs_len]; simp only [List.length_cons, List.length_nil]; omega) (gSome ⟨hB', by simp, ?_⟩)) fun c => gSome ⟨hB', by simp, ?_⟩
  · have c' : cnt m B = k := by omega
    rw [List.range_succ, List.filter_append, cs_app]; simp [c']
  · have c' : ¬ cnt m B = k := by omega
    rw [List.range_succ, List.filter_append]; simp [c']
theorem Uniform_spec (k n : Int) : Gets (kinds_Uniform k n) (fun r => (∃ m j : Nat, n = (m : Int) ∧ k = (j : Int) ∧ m ≤ 8 ∧ j ≤ m ∧ r = ((m : Int), cs (uniL m j), 0)) ∨ r = (0, [], 1)) := by
  unfold kinds_Uniform
  rcases Classical.em (((n < 0 ∨ 8 < n) ∨ k < 0) ∨ n < k) with c | c
  · have : sets_Choose n k = some ([], 1) := by unfold sets_Choose; rw [if_pos c]
    exact gBindE this (gIte (fun _ => gSome (.inr rfl)) fun q => absurd (by simp) q)
  · obtain ⟨m, rfl⟩ := Int.eq_ofNat_of_zero_le (show 0 ≤ n by omega)
    obtain ⟨j, rfl⟩ := Int.eq_ofNat_of_zero_le (show 0 ≤ k by omega)
    exact gBindE (UChoose_ok (by omega) (by omega)) (gIte (fun q => absurd rfl q) fun _ => gSome (.inl ⟨m, j, rfl, rfl, by omega, by omega, rfl⟩))
theorem Uniform_ok {m j : Nat} (h8 : m ≤ 8) (hj : j ≤ m) : kinds_Uniform (j : Int) (m : Int) = some ((m : Int), cs (uniL m j), 0) := by
  unfold kinds_Uniform
  rw [UChoose_ok h8 hj]; rfl

/-! ### truncation -/
section
variable {m : Nat} {B : List Nat} (h : Mat m B)
include h
theorem Mat.size_full {b : Nat} (hb : b ∈ B) : cnt m b = rk m B (2 ^ m - 1) := by
  have e : ∀ b, b ∈ B → (2 ^ m - 1) &&& b = b := fun b hb => Nat.eq_of_testBit_eq fun i => by
    rw [Nat.testBit_and, full_bit]
    cases c : b.testBit i with
    | false => simp
    | true => have := bit_lt (h.lt b hb) c; simp [this]
  refine Nat.le_antisymm ?_ (rk_le.2 fun b' hb' => ?_)
  · have := le_rk (m := m) (s := 2 ^ m - 1) hb
    rw [e b hb] at this; exact this
  · rw [e b' hb', h.eqc b' hb' b hb]; exact Nat.le_refl _
theorem Mat.Truncate_ok {t : Nat} (ht : t ≤ rk m B (2 ^ m - 1)) : ∃ K, minors_Truncate m (cs B) t = some ((m : Int), cs K, 0) ∧ Fam m K ∧ ∀ x, x ∈ K ↔ x < 2 ^ m ∧ rk m B x = cnt m x ∧ cnt m x = t := by
  have h8 := h.m8
  have h256 := pow_le8 h8
  have hlen := h.len
  obtain ⟨b0, hb0⟩ := h.exists_basis
  have hpos : 0 < B.length := List.length_pos_iff.2 h.ne
  have hg : B.getD 0 0 ∈ B := mem_getD.2 ⟨0, hpos, rfl⟩
  have hglt := h.lt _ hg
  have tr : ∀ s : Nat, s < 256 → minors_Truncate_1 (s : Int) (t : Int) = some (decide (size s ≠ t)) := fun s hs => by
    unfold minors_Truncate_1
    rw [minors_size_nat hs, Option.bind_some]
    congr 1
    rw [Bool.eq_iff_iff, decide_eq_true_eq, decide_eq_true_eq]; omega
  let L := (List.range (2 ^ m)).filter fun s => rk m B s = cnt m s
  have hL : ∀ s, s ∈ L ↔ s < 2 ^ m ∧ rk m B s = cnt m s := fun s => by simp [L]
  have hdel : delL (fun x0 => minors_Truncate_1 x0 (t : Int)) (cs L) = cs (L.filter fun s => cnt m s = t) := by
    unfold delL cs
    rw [List.filter_map]
    congr 1
    refine List.filter_congr fun s hs => ?_
    have hs' := ((hL s).1 hs).1
    show (!((minors_Truncate_1 ((s : Nat) : Int) (t : Int)).getD false)) = _
    rw [tr s (by omega), size_of_lt hs' h8]
    simp
  obtain ⟨K, k1, k2, k3⟩ := made_spec h8 (L.filter fun s => cnt m s = t) (fun s hs => ((hL s).1 (List.mem_filter.1 hs).1).1) (by
    refine Nat.le_trans (List.length_filter_le _ _) (Nat.le_trans (List.length_filter_le _ _) ?_)
    simp; omega)
  refine ⟨K, ?_, k2, fun x => ?_⟩
  · refine Gets.eq ?_
    unfold minors_Truncate
    refine gBind (axioms_Independents_spec m (cs B) (by rw [cs_len]; omega)) ?_
    rintro y (⟨h0, m', B', e1, e2, hM, e3⟩ | ⟨_, _, hn⟩)
    rotate_left
    · exact absurd ⟨m, B, rfl, rfl, h⟩ hn
    have e1' : m' = m := by omega
    have e2' := cs_inj e2
    subst e1' e2'
    refine gIte (fun q => absurd h0 q) fun _ => gChk (fun _ => by rw [cs_len]; exact hpos) ?_
    rw [if_pos (by omega), cs_get]
    refine gBindE (minors_size_nat (by omega)) (gIte (fun q => ?_) fun _ => ?_)
    · exfalso
      rw [size_of_lt hglt h8, h.size_full hg] at q
      omega
    · rw [e3]
      refine gChk ⟨fun q => ?_, fun x hx => ?_⟩ ?_
      · have : (0 : Nat) ∈ L := (hL 0).2 ⟨Nat.pow_pos (by omega), by rw [h.rk_zero, cnt_zero]⟩
        have hq : cs L = [] := q
        have := (cs_mem L 0).2 this
        rw [hq] at this; cases this
      · rcases List.mem_cons.1 hx with rfl | hx
        · exact ⟨_, tr 0 (by omega)⟩
        · obtain ⟨s, hs, rfl⟩ := List.mem_map.1 hx
          exact ⟨_, tr s (by have := ((hL s).1 hs).1; omega)⟩
      · show Gets ((minors_made _ (delL (fun x0 => minors_Truncate_1 x0 (t : Int)) (cs L))).bind _) _
        rw [hdel]
        exact gBindE k1 (gSome rfl)
  · rw [k3 x, List.mem_filter, hL x]
    simp only [decide_eq_true_eq]
    exact ⟨fun q => ⟨q.1.1, q.1.2, q.2⟩, fun q => ⟨⟨q.1, q.2.1⟩, q.2.2⟩⟩

/-! ### a free element -/
theorem Mat.Free_ok (hm : m < 8) : ∃ K, minors_Free m (cs B) = some (((m + 1 : Nat) : Int), cs K, 0) ∧ Fam (m + 1) K ∧ ∀ x, x ∈ K ↔ x ∈ B ∨ ∃ b i, b ∈ B ∧ b.testBit i = true ∧ x = dif b (2 ^ i) ||| 2 ^ m := by
  have h8 := h.m8
  have h256 := pow_le8 h8
  have hlen := h.len
  have hpm : 0 < 2 ^ m := Nat.pow_pos (by omega)
  have h128 : 2 ^ m ≤ 2 ^ 7 := Nat.pow_le_pow_right (by omega) (by omega)
  have hBl : B.length ≤ 2 ^ m := by
    rcases Nat.eq_zero_or_pos B.length with c | c
    · omega
    · have h1 := h.toFam.ge (B.length - 1) (by omega)
      have h2 := h.lt _ (mem_getD.2 ⟨B.length - 1, by omega, rfl⟩)
      omega
  let D : Nat → Nat → Prop := fun b x => ∃ i, b.testBit i = true ∧ x = dif b (2 ^ i) ||| 2 ^ m
  suffices Gets (minors_Free m (cs B)) (fun r => ∃ K, r = (((m + 1 : Nat) : Int), cs K, 0) ∧ Fam (m + 1) K ∧ ∀ x, x ∈ K ↔ x ∈ B ∨ ∃ b i, b ∈ B ∧ b.testBit i = true ∧ x = dif b (2 ^ i) ||| 2 ^ m) by
    obtain ⟨r, h1, K, rfl, h2⟩ := this
    exact ⟨K, h1, h2⟩
  unfold minors_Free
  refine gBindE h.check (gIte (fun q => absurd rfl q) fun _ => gIte (fun q => by omega) fun _ => gChk (by rw [cs_len]; omega) ?_)
  refine gBind (R := fun l => ∃ N : List Nat, l = cs N ∧ N.length ≤ 2048 ∧ (∀ x, x ∈ N ↔ x ∈ B ∨ ∃ j, j < B.length ∧ D (B.getD j 0) x)) (gFor B.length (fun k (x : List Int × Int) => x.2 = (k : Int) ∧ ∃ N : List Nat, x.1 = cs N ∧ N.length ≤ B.length + 8 * k ∧ ∀ x, x ∈ N ↔ x ∈ B ∨ ∃ j, j < k ∧ D (B.getD j 0) x) (Nat.zero_le _) ⟨rfl, B, rfl, by omega, fun x => ⟨.inl, fun q => q.elim id fun ⟨j, hj, _⟩ => absurd hj (Nat.not_lt_zero j)⟩⟩ ?_) ?_
  · rintro k ⟨_, _⟩ hk ⟨rfl, N, rfl, hN, hNm⟩
    simp only [cs_len, cs_get, toNat_nat]
    refine gIte (fun h1 => gChk (by omega) ?_) fun h1 => gSome ⟨N, rfl, by omega, (by have e : k = B.length := (by omega); subst e; exact hNm)⟩
    have hk' : k < B.length := by omega
    have hbm : B.getD k 0 ∈ B := mem_getD.2 ⟨k, hk', rfl⟩
    have hb := h.lt _ hbm
    generalize hbe : B.getD k 0 = b at hb
    refine gBind (R := fun l => ∃ N', l = cs N' ∧ N'.length ≤ N.length + 8 ∧ ∀ x, x ∈ N' ↔ x ∈ N ∨ D b x) (gLoop (fun (z : List Int × Int) => ∃ (N' : List Nat) (t : Nat), z = (cs N', (t : Int)) ∧ Inc t b ∧ N'.length + cnt m t ≤ N.length + cnt m b ∧ ∀ x, x ∈ N' ↔ x ∈ N ∨ ∃ i, b.testBit i = true ∧ t.testBit i = false ∧ x = dif b (2 ^ i) ||| 2 ^ m) (fun z => z.2.toNat) ⟨N, b, rfl, Inc.refl b, Nat.le_refl _, fun x => ⟨.inl, fun q => q.elim id fun ⟨i, q1, q2, _⟩ => by rw [q1] at q2; cases q2⟩⟩ ?_) ?_
    · rintro _ ⟨N', t, rfl, ht, hl, hmem⟩
      have ht' := ht.lt hb
      have hcb := cnt_le m b
      refine gIte (fun q => ?_) fun q => gSome ⟨N', rfl, by omega, fun x => ?_⟩
      · have hlo := low_spec (show t < 256 by omega) (show t ≠ 0 by omega)
        have hcd := cnt_dif ht' hlo.bit
        simp only [hlo.neg, hlo.rest, toNat_nat, shl_nat', dif_nat, or_nat]
        refine gChk ⟨by omega, by omega, by rw [List.length_append, cs_len]; simp only [List.length_cons, List.length_nil]; omega⟩ (gChk (by omega) (gSome ⟨⟨N' ++ [dif b (2 ^ lo1 t) ||| 2 ^ m], dif t (2 ^ lo1 t), by rw [cs_app], (inc_dif _ _).trans ht, by rw [List.length_append, List.length_cons, List.length_nil]; omega, fun x => ?_⟩, ?_⟩))
        · rw [List.mem_append, hmem x, List.mem_singleton]
          constructor
          · rintro ((q1 | ⟨i, i1, i2, i3⟩) | q1)
            · exact .inl q1
            · exact .inr ⟨i, i1, by rw [testBit_dif, i2]; rfl, i3⟩
            · exact .inr ⟨lo1 t, ht _ hlo.bit, by rw [testBit_dif, testBit_pow]; simp, q1⟩
          · rintro (q1 | ⟨i, i1, i2, i3⟩)
            · exact .inl (.inl q1)
            · cases c : t.testBit i with
              | false => exact .inl (.inr ⟨i, i1, c, i3⟩)
              | true =>
                rw [testBit_dif, testBit_pow, c] at i2
                have e : lo1 t = i := by simpa using i2
                exact .inr (by rw [e]; exact i3)
        · show (((dif t (2 ^ lo1 t) : Nat) : Int)).toNat < ((t : Nat) : Int).toNat
          have := hlo.less
          omega
      · have e : t = 0 := by omega
        subst e
        rw [hmem x]
        constructor
        · rintro (q1 | ⟨i, i1, _, i3⟩)
          · exact .inl q1
          · exact .inr ⟨i, i1, i3⟩
        · rintro (q1 | ⟨i, i1, i3⟩)
          · exact .inl q1
          · exact .inr ⟨i, i1, by simp, i3⟩
    · rintro _ ⟨N', rfl, hl', hmem'⟩
      refine gSome ⟨hk', by simp, N', rfl, by omega, fun x => ?_⟩
      rw [hmem' x, hNm x]
      constructor
      · rintro ((q | ⟨j, j1, j2⟩) | q)
        · exact .inl q
        · exact .inr ⟨j, by omega, j2⟩
        · exact .inr ⟨k, by omega, by rw [hbe]; exact q⟩
      · rintro (q | ⟨j, j1, j2⟩)
        · exact .inl (.inl q)
        · rcases Nat.lt_succ_iff_lt_or_eq.1 j1 with c | c
          · exact .inl (.inr ⟨j, c, j2⟩)
          · subst c; rw [hbe] at j2; exact .inr j2
  · rintro _ ⟨N, rfl, hN, hNm⟩
    have hlt : ∀ s, s ∈ N → s < 2 ^ (m + 1) := fun s hs => by
      have hp : 2 ^ (m + 1) = 2 ^ m + 2 ^ m := by rw [Nat.pow_succ]; omega
      rcases (hNm s).1 hs with q | ⟨j, j1, i, _, rfl⟩
      · have := h.lt s q; omega
      · exact or_lt (dif_lt (Nat.lt_trans (h.lt _ (mem_getD.2 ⟨j, j1, rfl⟩)) (by omega))) (pow_lt (by omega))
    obtain ⟨K, k1, k2, k3⟩ := made_spec (show m + 1 ≤ 8 by omega) N hlt (by omega)
    refine gChk (by omega) (gBindE (a := (((m + 1 : Nat) : Int), cs K)) k1 (gSome ⟨K, rfl, k2, fun x => ?_⟩))
    rw [k3 x, hNm x]
    constructor
    · rintro (q | ⟨j, j1, i, i1, i2⟩)
      · exact .inl q
      · exact .inr ⟨_, i, mem_getD.2 ⟨j, j1, rfl⟩, i1, i2⟩
    · rintro (q | ⟨b, i, hb, i1, i2⟩)
      · exact .inl q
      · obtain ⟨j, j1, rfl⟩ := mem_getD.1 hb
        exact .inr ⟨j, j1, i, i1, i2⟩
end
end Go.SH
