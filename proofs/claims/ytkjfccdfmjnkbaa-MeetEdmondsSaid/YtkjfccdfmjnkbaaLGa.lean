/-
  Package greedy as it computes: weights, what is taken along an order, the best basis. Conditions: none.
-/
import Derived.Test.YtkjfccdfmjnkbaaLSe
import Derived.Test.YtkjfccdfmjnkbaaLF
import Derived.Test.YtkjfccdfmjnkbaaLBk
import Derived.Test.YtkjfccdfmjnkbaaSpgreedy
set_option linter.unusedSimpArgs false
set_option linter.unusedVariables false
namespace Go.SH
open Go Go.AX

theorem weights_spec (n : Int) (l w : List Int) (hl : l.length ≤ 9223372036854775807) : Gets (greedy_weights n l w) (fun r => (r = 0 ∧ ∃ m B, n = (m : Nat) ∧ l = cs B ∧ Mat m B ∧ WOk m w) ∨ (r ≠ 0 ∧ ¬ ∃ m B, n = (m : Nat) ∧ l = cs B ∧ Mat m B ∧ WOk m w)) := by
  unfold greedy_weights
  refine gBind (axioms_Check_spec n l hl) ?_
  rintro y (⟨rfl, m, B, rfl, rfl, hM⟩ | ⟨hy, hn⟩)
  rotate_left
  · exact gIte (fun _ => gSome (.inr ⟨hy, fun ⟨m, B, h1, h2, h3, _⟩ => hn ⟨m, B, h1, h2, h3⟩⟩)) fun q => absurd hy q
  refine gIte (fun q => absurd rfl q) fun _ => gIte (fun q => gSome (.inr ⟨by simp, fun ⟨m', B', h1, _, _, h2⟩ => q (by have := h2.1; omega)⟩)) fun q => ?_
  have hlw : w.length = m := by omega
  refine gBind (R := fun z => match z with | .inl _ => ∀ j, j < m → -1000 ≤ wf w j ∧ wf w j ≤ 1000 | .inr r => r = 1 ∧ ¬ WOk m w) (gFor m (fun k v => v = (k : Int) ∧ ∀ j, j < k → -1000 ≤ wf w j ∧ wf w j ≤ 1000) (Nat.zero_le _) ⟨rfl, fun j hj => absurd hj (Nat.not_lt_zero j)⟩ ?_) ?_
  · rintro k _ hk ⟨rfl, h3⟩
    simp only [toNat_nat]
    refine gIte (fun h4 => gChk (by omega) (gIte (fun h5 => gSome ⟨rfl, fun h6 => ?_⟩) fun h5 => gSome ⟨by omega, by simp, fun j hj => ?_⟩)) fun h4 => gSome fun j hj => h3 j (by omega)
    · have := h6.2 k (by omega)
      unfold wf at this
      omega
    · rcases Nat.lt_succ_iff_lt_or_eq.1 hj with c | rfl
      · exact h3 j c
      · unfold wf; omega
  · rintro (u | rr) hz
    · exact gSome (.inl ⟨rfl, m, B, rfl, rfl, hM, hlw, hz⟩)
    · obtain ⟨rfl, hn⟩ := hz
      exact gSome (.inr ⟨by simp, fun ⟨m', B', h1, _, _, h2⟩ => hn (by have e : m = m' := by omega
                                                                       subst e; exact h2)⟩)
theorem Mat.bound {m : Nat} {B : List Nat} (h : Mat m B) (s : Nat) : rk m B s ≤ m := Nat.le_trans (h.rk_size s) (cnt_le m s)
/-- What is taken along an order spans what lies ahead, place by place. -/
theorem taken_spec {m : Nat} {B : List Nat} (h : Mat m B) {L : List Nat} (hO : Ord m L) : Gets (greedy_taken m (cs B) (cs L)) (fun r => ∃ T : Nat, r = (T : Int) ∧ T < 2 ^ m ∧ rk m B T = cnt m T ∧ ∀ k, k ≤ m → cnt m (T &&& pre L k) = rk m B (pre L k)) := by
  have h8 := h.m8
  have h256 := pow_le8 h8
  unfold greedy_taken
  refine gBindE (axioms_Ranks_ok h) ?_
  simp only [cs_len, hO.len, rkL_len]
  refine gBind (R := fun o => ∃ T : Nat, o = (T : Int) ∧ T < 2 ^ m ∧ rk m B T = cnt m T ∧ ∀ k, k ≤ m → cnt m (T &&& pre L k) = rk m B (pre L k)) (gFor m (fun k (x : Int × Int) => x.2 = (k : Int) ∧ ∃ T : Nat, x.1 = (T : Int) ∧ Inc T (pre L k) ∧ rk m B T = cnt m T ∧ ∀ j, j ≤ k → cnt m (T &&& pre L j) = rk m B (pre L j)) (Nat.zero_le _) ⟨rfl, 0, rfl, Inc.refl _, by rw [h.rk_zero, cnt_zero], fun j hj => ?_⟩ ?_) fun o ho => gSome ho
  · have : j = 0 := by omega
    subst this
    simp [pre, h.rk_zero, cnt_zero]
  rintro k ⟨_, _⟩ hk ⟨rfl, T, rfl, hT, hr, hj⟩
  simp only [toNat_nat, cs_get, shl_nat', or_nat]
  have hpk := hO.pre_lt hk
  have hTl := hT.lt hpk
  refine gIte (fun h4 => ?_) fun h4 => gSome (by have e : k = m := by omega
                                                 subst e; exact ⟨T, rfl, hTl, hr, hj⟩)
  have hk' : k < m := by omega
  have hlt := hO.lt k hk'
  have hnew := hO.pre_new hk'
  have hTnew : T.testBit (L.getD k 0) = false := by
    cases hb : T.testBit (L.getD k 0)
    · rfl
    · have := hT _ hb; rw [hnew] at this; cases this
  have hTl2 : T ||| 2 ^ L.getD k 0 < 2 ^ m := or_lt hTl (pow_lt hlt)
  refine gChk (by omega) (gChk (by omega) ?_)
  have hself : T &&& pre L k = T := (sub_iff_and _ _).2 hT
  have hspan := hj k (Nat.le_refl k)
  rw [hself, ← hr] at hspan
  have hincp : Inc T (pre L (k + 1)) := hT.trans (inc_or_l _ _)
  -- the rank of what lies ahead, with the next one
  have hsub := h.rk_sub (T ||| 2 ^ L.getD k 0) (pre L k)
  have e1 : (T ||| 2 ^ L.getD k 0) ||| pre L k = pre L (k + 1) := Nat.eq_of_testBit_eq fun j => by
    have := hT j
    simp only [pre, Nat.testBit_or]
    cases q1 : T.testBit j <;> cases q2 : (pre L k).testBit j <;> cases q3 : (2 ^ L.getD k 0).testBit j <;> simp_all
  have e2 : (T ||| 2 ^ L.getD k 0) &&& pre L k = T := Nat.eq_of_testBit_eq fun j => by
    have := hT j
    rw [Nat.testBit_and, Nat.testBit_or, testBit_pow]
    by_cases q : L.getD k 0 = j
    · rw [← q, hnew, hTnew]; simp
    · rw [decide_eq_false q, Bool.or_false]
      cases q1 : T.testBit j <;> cases q2 : (pre L k).testBit j <;> simp_all
  rw [e1, e2] at hsub
  have hmono := h.rk_mono (s := T ||| 2 ^ L.getD k 0) (t := pre L (k + 1)) (inc_or hincp (inc_or_r _ _))
  have hstep := h.rk_step T hlt
  have hup := h.rk_mono (inc_or_l T (2 ^ L.getD k 0))
  have hcnt := cnt_add (m := m) hlt hTnew
  simp only [rkL_get m B hTl, rkL_get m B hTl2]
  refine gIte (fun c => gChk (by omega) (gSome ⟨hk', by simp, _, rfl, ?_, by omega, fun j hjk => ?_⟩)) fun c => gSome ⟨hk', by simp, T, rfl, hincp, hr, fun j hjk => ?_⟩
  · exact inc_or hincp (inc_or_r _ _)
  · rcases Nat.lt_or_ge j (k + 1) with q | q
    · have e3 : (T ||| 2 ^ L.getD k 0) &&& pre L j = T &&& pre L j := Nat.eq_of_testBit_eq fun i => by
        rw [Nat.testBit_and, Nat.testBit_or, Nat.testBit_and, testBit_pow]
        by_cases z : L.getD k 0 = i
        · have hn : (pre L j).testBit i = false := by
            cases hb : (pre L j).testBit i
            · rfl
            · obtain ⟨j', q1, q2⟩ := (pre_bit L j i).1 hb
              exact absurd (q2.trans z.symm) (hO.inj j' k (by omega) hk')
          rw [hn]; simp
        · rw [decide_eq_false z, Bool.or_false]
      rw [e3]; exact hj j (by omega)
    · have e : j = k + 1 := by omega
      subst e
      rw [(sub_iff_and _ _).2 (inc_or hincp (inc_or_r _ _))]
      omega
  · rcases Nat.lt_or_ge j (k + 1) with q | q
    · exact hj j (by omega)
    · have e : j = k + 1 := by omega
      subst e
      rw [(sub_iff_and _ _).2 hincp]
      omega
theorem Mat.basis_of {m : Nat} {B : List Nat} (h : Mat m B) {T : Nat} (hT : T < 2 ^ m) (h1 : rk m B T = cnt m T) (h2 : cnt m T = rk m B (2 ^ m - 1)) : T ∈ B := by
  obtain ⟨b, hb, hi⟩ := (h.ind_iff hT).2 h1
  have := h.full_rk b hb
  rw [inc_eq_of_cnt hi (h.lt b hb) (by omega)]
  exact hb
theorem gsum_spec {m : Nat} (h8 : m ≤ 8) {w : List Int} (hW : WOk m w) {s : Nat} (hs : s < 2 ^ m) : greedy_sum w s = some (wsum m (wf w) s) := by
  refine Gets.eq ?_
  unfold greedy_sum
  have hl := hW.1
  refine gBind (R := fun o => o = wsum m (wf w) s) (gFor m (fun k (x : Int × Int) => x.2 = (k : Int) ∧ x.1 = sumN k fun i => if s.testBit i = true then wf w i else 0) (Nat.zero_le _) ⟨rfl, rfl⟩ ?_) fun o ho => gSome ho
  rintro k ⟨_, _⟩ hk ⟨rfl, rfl⟩
  simp only [toNat_nat, shl_nat', bitB]
  refine gIte (fun h4 => gChk (by omega) ?_) fun h4 => gSome (by have e : k = m := by omega
                                                                 subst e; rfl)
  have hk' : k < m := by omega
  have e1 : w.getD k 0 * (if s.testBit k = true then (1 : Int) else 0) = if s.testBit k = true then wf w k else 0 := by
    cases s.testBit k <;> simp [wf]
  have b := hW.2 k hk'
  have b2 := sumN_abs8 (n := k) (c := 1000) (g := fun i => if s.testBit i = true then wf w i else 0) (by omega) fun i hi => by
    have := hW.2 i (by omega)
    split <;> omega
  have b3 : -1000 ≤ (if s.testBit k = true then wf w k else 0) ∧ (if s.testBit k = true then wf w k else 0) ≤ 1000 := by split <;> omega
  simp only [e1]
  exact gChk (by omega) (gSome ⟨hk', by simp, rfl⟩)
/-- A best basis: it spans each layer. -/
structure BestOf (m : Nat) (B : List Nat) (w : List Int) (T : Nat) : Prop where
  mem : T ∈ B
  lay : ∀ j, cnt m (T &&& upS m (wf w) j) = rk m B (upS m (wf w) j)
theorem BestOf.le {m : Nat} {B : List Nat} {w : List Int} {T : Nat} (hT : BestOf m B w T) (h : Mat m B) (hW : WOk m w) {b : Nat} (hb : b ∈ B) : wsum m (wf w) b ≤ wsum m (wf w) T := by
  rw [wsum_layer hW.2 b, wsum_layer hW.2 T]
  have e := h.eqc b hb T hT.mem
  have := sumN_le (n := 2000) (g := fun j => ((cnt m (b &&& upS m (wf w) j) : Nat) : Int)) (h := fun j => ((cnt m (T &&& upS m (wf w) j) : Nat) : Int)) fun j _ => by
    rw [hT.lay j, Nat.and_comm]
    have := le_rk (m := m) (s := upS m (wf w) j) hb
    omega
  omega
theorem Best_spec (n : Int) (l w : List Int) (hl : l.length ≤ 9223372036854775807) : Gets (greedy_Best n l w) (fun r => (r.2.2 ≠ 0 ∧ r.1 = 0 ∧ r.2.1 = 0 ∧ ¬ ∃ m B, n = (m : Nat) ∧ l = cs B ∧ Mat m B ∧ WOk m w) ∨
    (r.2.2 = 0 ∧ ∃ m B, n = (m : Nat) ∧ l = cs B ∧ Mat m B ∧ WOk m w ∧ ∃ T : Nat, r.1 = (T : Int) ∧ r.2.1 = wsum m (wf w) T ∧ BestOf m B w T)) := by
  unfold greedy_Best
  refine gBind (weights_spec n l w hl) ?_
  rintro y (⟨rfl, m, B, rfl, rfl, h, hW⟩ | ⟨hy, hn⟩)
  rotate_left
  · exact gIte (fun _ => gSome (.inl ⟨hy, rfl, rfl, hn⟩)) fun q => absurd hy q
  have h8 := h.m8
  have hlw := hW.1
  refine gIte (fun q => absurd rfl q) fun _ => gChk (by omega) ?_
  simp only [List.length_replicate, toNat_nat]
  refine gBind (R := fun v => v = cs (List.range m)) (gFor m (fun k (x : List Int × Int) => x.2 = (k : Int) ∧ x.1.length = m ∧ ∀ j, j < k → x.1.getD j 0 = (j : Int)) (Nat.zero_le _) ⟨rfl, by simp, fun j hj => absurd hj (Nat.not_lt_zero j)⟩ ?_) ?_
  · rintro k ⟨v, _⟩ hk ⟨rfl, h1, h2⟩
    simp only at h1 h2
    simp only [toNat_nat]
    refine gIte (fun h4 => gChk (by omega) (gSome ⟨by omega, by simp, by simpa using h1, fun j hj => ?_⟩)) fun h4 => gSome (iota h1 fun j hj => h2 j (by omega))
    rw [set_getD _ (by omega)]
    by_cases c : j = k
    · rw [if_pos c, c]
    · rw [if_neg c]; exact h2 j (by omega)
  rintro _ rfl
  have hcl : ∀ a b : Nat, a < m → b < m → greedy_Best_1 (a : Int) (b : Int) w = cmp_Compare_int (w.getD b 0) (w.getD a 0) := fun a b ha hb => by
    unfold greedy_Best_1
    rw [chk_pos (by omega)]
    simp only [toNat_nat]
    cases cmp_Compare_int (w.getD b 0) (w.getD a 0) <;> rfl
  obtain ⟨ho, L, hL, hO, hs⟩ := sorted_order hlw (f := fun x0 x1 => greedy_Best_1 x0 x1 w) hcl
  refine gChk ⟨ho, by rw [cs_len, List.length_range]; omega⟩ ?_
  rw [hL]
  refine gBind (taken_spec h hO) ?_
  rintro _ ⟨T, rfl, hT, hr, hj⟩
  refine gBindE (gsum_spec h8 hW hT) (gSome (.inr ⟨rfl, m, B, rfl, rfl, h, hW, T, rfl, rfl, ?_, fun j => ?_⟩))
  · have := hj m (Nat.le_refl m)
    rw [hO.pre_all, (sub_iff_and _ _).2 fun i hi => by rw [Nat.testBit_two_pow_sub_one]; simp [bit_lt hT hi]] at this
    exact h.basis_of hT hr this
  · obtain ⟨k, hk, e⟩ := hO.layer_pre (w := wf w) hs j
    rw [e]; exact hj k hk
end Go.SH
