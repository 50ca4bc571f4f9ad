/-
  The laws SubEdmonds and SubConvex. Conditions: none.
-/
import Derived.Test.YtkjfccdfmjnkbaaLSe
import Derived.Test.YtkjfccdfmjnkbaaLBk
set_option linter.unusedSimpArgs false
set_option linter.unusedVariables false
namespace Go.SH
open Go Go.AX

theorem sum_filter (g : Nat → Int) (p : Nat → Bool) : ∀ n, sumN ((List.range n).filter p).length (fun j => g (((List.range n).filter p).getD j 0)) = sumN n (fun i => if p i = true then g i else 0) := by
  intro n
  induction n with
  | zero => rfl
  | succ n ih =>
    rw [sumN, ← ih, List.range_succ, List.filter_append]
    cases h : p n
    · simp [h]
    · have e : [n].filter p = [n] := by simp [h]
      rw [e, List.length_append, List.length_singleton, sumN]
      have h1 : ((List.range n).filter p ++ [n]).getD ((List.range n).filter p).length 0 = n := by simp [List.getD_eq_getElem?_getD]
      rw [h1, if_pos rfl]
      congr 1
      refine sumN_congr fun j hj => ?_
      rw [List.getD_eq_getElem?_getD, List.getD_eq_getElem?_getD, List.getElem?_append_left hj]
/-- What a set weighs. -/
theorem Weighs_nat {m : Nat} (h8 : m ≤ 8) (w : List Int) {c : Int} (hc : 0 ≤ c ∧ c ≤ 1000000) (hl : w.length = m) (hb : ∀ i, i < m → -c ≤ wf w i ∧ wf w i ≤ c) {s : Nat} (hs : s < 2 ^ m) : rotaref_Weighs w s = some (wsum m (wf w) s) := by
  have h256 := pow_le8 h8
  refine Gets.eq ?_
  unfold rotaref_Weighs
  refine gBindE (rotaref_Elements_nat s) ?_
  have hle : (els s).length ≤ 8 := by rw [els_len]; exact cnt_le 8 s
  have hmem : ∀ j, j < (els s).length → (els s).getD j 0 < m := fun j hj => bit_lt hs ((els_mem (by omega)).1 (mem_getD.2 ⟨j, hj, rfl⟩))
  have hsum : sumN (els s).length (fun j => wf w ((els s).getD j 0)) = wsum m (wf w) s := by
    unfold els
    rw [sum_filter (wf w) (fun i => s.testBit i) 8]
    have e : ∀ k, m + k ≤ 8 → sumN (m + k) (fun i => if s.testBit i = true then wf w i else 0) = wsum m (wf w) s := by
      intro k
      induction k with
      | zero => intro _; rfl
      | succ k ih =>
        intro hk
        rw [← Nat.add_assoc, sumN, ih (by omega), bit_ge hs (by omega)]
        simp
    have := e (8 - m) (by omega)
    rwa [show m + (8 - m) = 8 by omega] at this
  simp only [cs_len]
  refine gBind (R := fun o => o = wsum m (wf w) s) (gFor (els s).length (fun k (x : Int × Int) => x.2 = (k : Int) ∧ x.1 = sumN k fun j => wf w ((els s).getD j 0)) (Nat.zero_le _) ⟨rfl, rfl⟩ ?_) fun o ho => gSome ho
  rintro k ⟨_, _⟩ hk ⟨rfl, rfl⟩
  simp only [toNat_nat, cs_get]
  refine gIte (fun h4 => ?_) fun h4 => gSome (by have e : k = (els s).length := by omega
                                                 rw [← hsum, e])
  have hk' : k < (els s).length := by omega
  have h1 := hmem k hk'
  have h2 := hb _ h1
  have h3 := sumN_abs8 (n := k) (c := c) (g := fun j => wf w ((els s).getD j 0)) (by omega) fun j hj => hb _ (hmem j (by omega))
  have e1 : w.getD ((els s).getD k 0) 0 = wf w ((els s).getD k 0) := rfl
  rw [e1]
  exact gChk (by omega) (gSome ⟨hk', by simp, rfl⟩)
theorem dot_bound {m : Nat} (h8 : m ≤ 8) {x y : Nat → Int} (hx : ∀ i, i < m → -2000 ≤ x i ∧ x i ≤ 2000) (hy : ∀ i, i < m → -1000 ≤ y i ∧ y i ≤ 1000) : (∀ i, i < m → -2000000 ≤ x i * y i ∧ x i * y i ≤ 2000000) ∧ ∀ k, k ≤ m → -16000000 ≤ sumN k (fun i => x i * y i) ∧ sumN k (fun i => x i * y i) ≤ 16000000 := by
  have h1 : ∀ i, i < m → -2000000 ≤ x i * y i ∧ x i * y i ≤ 2000000 := fun i hi => by
    have a := hx i hi
    have b := hy i hi
    generalize x i = p at a
    generalize y i = q at b
    have d1 : (p.natAbs * q.natAbs) ≤ 2000 * 1000 := Nat.mul_le_mul (by omega) (by omega)
    rw [← Int.natAbs_mul] at d1
    omega
  refine ⟨h1, fun k hk => ?_⟩
  have := sumN_abs8 (n := k) (c := 2000000) (g := fun i => x i * y i) (by omega) fun i hi => h1 i (by omega)
  omega
theorem all_nat {m : Nat} (h : m ≤ 8) : rotaref_All m = some ((2 ^ m - 1 : Nat) : Int) := rotaref_All_nat h
/-- The loop that adds products. -/
theorem dot_loop {m : Nat} (h8 : m ≤ 8) {x w : List Int} (hlx : x.length = m) (hlw : w.length = m) (hx : ∀ i, i < m → -2000 ≤ wf x i ∧ wf x i ≤ 2000) (hw : ∀ i, i < m → -1000 ≤ wf w i ∧ wf w i ≤ 1000) :
    Gets (loopM (ρ := Int) (fun ((v1, v2) : Int × Int) =>
      if v2 < (x.length : Int) then
      chk ((0 ≤ v2 ∧ v2 < x.length) ∧ (0 ≤ v2 ∧ v2 < w.length) ∧ (-9223372036854775808 ≤ ((x.getD v2.toNat 0) * (w.getD v2.toNat 0) : Int) ∧ ((x.getD v2.toNat 0) * (w.getD v2.toNat 0) : Int) ≤ 9223372036854775807) ∧ (-9223372036854775808 ≤ (v1 + ((x.getD v2.toNat 0) * (w.getD v2.toNat 0)) : Int) ∧ (v1 + ((x.getD v2.toNat 0) * (w.getD v2.toNat 0)) : Int) ≤ 9223372036854775807)) <|
      some (.inl (v1 + ((x.getD v2.toNat 0) * (w.getD v2.toNat 0)), v2 + 1))
     else
      some (.inr v1)) (0, 0)) (fun r => r = sumN m fun i => wf x i * wf w i) := by
  obtain ⟨d1, d2⟩ := dot_bound h8 hx hw
  refine gFor m (fun k (s : Int × Int) => s.2 = (k : Int) ∧ s.1 = sumN k fun i => wf x i * wf w i) (Nat.zero_le _) ⟨rfl, rfl⟩ ?_
  rintro k ⟨_, _⟩ hk ⟨rfl, rfl⟩
  simp only [toNat_nat]
  refine gIte (fun h4 => ?_) fun h4 => gSome (by have e : k = m := by omega
                                                 rw [e])
  have hk' : k < m := by omega
  have a := d1 k hk'
  have b := d2 k (by omega)
  have e1 : x.getD k 0 * w.getD k 0 = wf x k * wf w k := rfl
  simp only [e1]
  exact gChk (by omega) (gSome ⟨hk', by simp, rfl⟩)
theorem sumN_const (n : Nat) (c : Int) : sumN n (fun _ => c) = n * c := by
  induction n with
  | zero => simp [sumN]
  | succ n ih => rw [sumN, ih, Int.natCast_add, Int.add_mul]; simp
theorem extV_set {m : Nat} {f w : List Int} {s : Nat} (hf : f.getD 0 0 = 0) (hs : s < 2 ^ m) (hw : ∀ i, i < m → wf w i = if s.testBit i = true then 1 else 0) : extV m f w = f.getD s 0 := by
  have hpos : 0 < 2 ^ m := Nat.pow_pos (by omega)
  have hup : ∀ j, f.getD (upS m (wf w) j) 0 = (if j < 1000 then f.getD (2 ^ m - 1) 0 else 0) + if j = 1000 then f.getD s 0 else 0 := fun j => by
    rcases Nat.lt_trichotomy j 1000 with c | c | c
    · have e : upS m (wf w) j = 2 ^ m - 1 := set_ext (upS_lt _ _ _) (by omega) fun i hi => by
        rw [upS_bit hi, hw i hi, Nat.testBit_two_pow_sub_one]
        simp only [hi, decide_true, decide_eq_true_eq]
        split <;> omega
      rw [e, if_pos c, if_neg (by omega)]; omega
    · have e : upS m (wf w) j = s := set_ext (upS_lt _ _ _) hs fun i hi => by
        rw [upS_bit hi, hw i hi]
        cases s.testBit i
        · simp; omega
        · simp; omega
      rw [e, if_neg (by omega), if_pos c]; omega
    · have e : upS m (wf w) j = 0 := set_ext (upS_lt _ _ _) hpos fun i hi => by
        rw [upS_bit hi, hw i hi, Nat.zero_testBit, decide_eq_false_iff_not]
        split <;> omega
      rw [e, if_neg (by omega), if_neg (by omega), hf]; omega
  unfold extV
  rw [sumN_congr fun j _ => hup j, sumN_add, sumN_single 2000 1000 _ (by omega)]
  have e2 : sumN 2000 (fun j => if j < 1000 then f.getD (2 ^ m - 1) 0 else 0) = f.getD (2 ^ m - 1) 0 * sumN 2000 (fun j => if j < 1000 then 1 else 0) := by
    rw [← sumN_mul]
    exact sumN_congr fun j _ => by split <;> omega
  rw [e2, layer_nat]
  have : ((min 2000 1000 : Nat) : Int) = 1000 := rfl
  rw [this]
  omega
theorem extV_add {m : Nat} {f w u b : List Int} (hf : Subm m f) (hw : WOk m w) (hu : WOk m u) (hb : WOk m b) (h : ∀ i, i < m → wf b i = wf w i + wf u i) : extV m f b ≤ extV m f w + extV m f u := by
  obtain ⟨_, L, _, hO, hs⟩ := sorted_order hb.1 (f := fun x y => cmp_Compare_int (b.getD y.toNat 0) (b.getD x.toNat 0)) fun _ _ _ _ => rfl
  obtain ⟨y, hy⟩ := hO.steps fun j => f.getD (pre L (j + 1)) 0 - f.getD (pre L j) 0
  have h1 := ext_order hf.z hb hO hs hy
  have hin : ∀ a, a < 2 ^ m → wsum m y a ≤ f.getD a 0 := fun a ha => vertex_within hf hO hy ha
  have hall : sumN m y = f.getD (2 ^ m - 1) 0 := by
    rw [hO.sum y, sumN_congr (h := fun j => f.getD (pre L (j + 1)) 0 - f.getD (pre L j) 0) fun j hj => hy j hj, tele (fun j => f.getD (pre L j) 0)]
    show f.getD (pre L m) 0 - f.getD 0 0 = _
    rw [hO.pre_all, hf.z]; omega
  have h2 := within_le hw hin hall
  have h3 := within_le hu hin hall
  have e : sumN m (fun i => y i * wf b i) = sumN m (fun i => y i * wf w i) + sumN m (fun i => y i * wf u i) := by
    rw [← sumN_add]
    exact sumN_congr fun i hi => by rw [h i hi, Int.mul_add]
  omega
end Go.SH
