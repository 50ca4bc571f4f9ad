/-
  What meet.Heaviest and meet.Spanned compute. Conditions: none.
-/
import Derived.Test.YtkjfccdfmjnkbaaLGrd
import Derived.Test.YtkjfccdfmjnkbaaLGa
import Derived.Test.YtkjfccdfmjnkbaaLSf
set_option linter.unusedSimpArgs false
set_option linter.unusedVariables false
namespace Go.SH
open Go Go.AX

theorem app_getI {l : List Int} {x : Int} (j : Nat) : (l ++ [x]).getD j 0 = if j < l.length then l.getD j 0 else if j = l.length then x else 0 := by
  rw [List.getD_eq_getElem?_getD, List.getD_eq_getElem?_getD]
  rcases Nat.lt_or_ge j l.length with c | c
  · rw [if_pos c, List.getElem?_append_left c]
  · rw [if_neg (by omega), List.getElem?_append_right c]
    by_cases d : j = l.length
    · rw [if_pos d, d]; simp
    · rw [if_neg d, List.getElem?_eq_none (by simp; omega)]; rfl
/-- The heaviest of each size. -/
structure Hv (m : Nat) (A B : List Nat) (w l : List Int) (N : Nat) : Prop where
  len : l.length = N + 1
  top : ∃ t, t < 2 ^ m ∧ Both m A B N t
  most : ∀ t, t < 2 ^ m → ∀ k, Both m A B k t → k ≤ N
  get : ∀ k, k ≤ N → ∃ t : Nat, l.getD k 0 = (t : Int) ∧ t < 2 ^ m ∧ Both m A B k t ∧ ∀ t', t' < 2 ^ m → Both m A B k t' → wsum m (wf w) t' ≤ wsum m (wf w) t
section
variable {m : Nat} {A B : List Nat} (hA : Mat m A) (hB : Mat m B)
include hA hB
theorem Both.down {k t : Nat} (ht : t < 2 ^ m) (h : Both m A B (k + 1) t) : ∃ t', t' < 2 ^ m ∧ Both m A B k t' := by
  obtain ⟨h1, h2, h3⟩ := h
  have hne : t ≠ 0 := fun e => by rw [e, cnt_zero] at h1; omega
  obtain ⟨i, hi⟩ := exists_bit hne
  have hl : dif t (2 ^ i) < 2 ^ m := dif_lt ht
  have hc := cnt_dif ht hi
  have a1 := (hA.ind_iff hl).1 (((hA.ind_iff ht).2 (by omega)).mono (inc_dif _ _))
  have a2 := (hB.ind_iff hl).1 (((hB.ind_iff ht).2 (by omega)).mono (inc_dif _ _))
  exact ⟨_, hl, by omega, by omega, by omega⟩
theorem Heaviest_spec (w : List Int) : Gets (meet_Heaviest m (cs A) m (cs B) w) (fun r => (r.2 ≠ 0 ∧ r.1 = []) ∨ (r.2 = 0 ∧ WOk m w ∧ ∃ N, Hv m A B w r.1 N)) := by
  have h8 := hA.m8
  have h256 := pow_le8 h8
  have hp2 : 0 < 2 ^ m := Nat.pow_pos (by omega)
  unfold meet_Heaviest
  refine gBindE (both_ok hA hB) (gIte (fun q => absurd rfl q) fun _ => gIte (fun _ => gSome (.inl ⟨by simp, rfl⟩)) fun q => ?_)
  have hwl : w.length = m := by omega
  refine gBind (R := fun z => match z with | .inl _ => WOk m w | .inr r => r.2 ≠ 0 ∧ r.1 = []) (gFor m (fun k v => v = (k : Int) ∧ ∀ j, j < k → -1000 ≤ wf w j ∧ wf w j ≤ 1000) (Nat.zero_le _) ⟨rfl, none_all⟩ ?_) ?_
  · rintro k _ hk ⟨rfl, hall⟩
    simp only [toNat_nat, hwl]
    refine gIte (fun h1 => gChk (by omega) (gIte (fun q => gSome ⟨by simp, rfl⟩) fun q => gSome ⟨by omega, by simp, step_all hall (by unfold wf; omega)⟩)) fun h1 => gSome ⟨hwl, by have e : k = m := (by omega); subst e; exact hall⟩
  rintro (uu | rr) hz
  rotate_left
  · exact gSome (.inl hz)
  have hW : WOk m w := hz
  refine gBindE (ranks_ok hA) (gBindE (ranks_ok hB) ?_)
  have wb : ∀ s, -8000 ≤ wsum m (wf w) s ∧ wsum m (wf w) s ≤ 8000 := fun s => by
    have := sumN_abs8 (n := m) (g := fun i => if s.testBit i = true then wf w i else 0) (c := 1000) h8 fun i hi => by
      have := hW.2 i hi
      show _ ≤ ite (s.testBit i = true) (wf w i) 0 ∧ ite (s.testBit i = true) (wf w i) 0 ≤ _
      split <;> omega
    unfold wsum
    omega
  refine gBind (R := fun l => ∃ N, Hv m A B w l N) (gFor (2 ^ m) (fun k (x : List Int × List Int × Int) => x.2.2 = (k : Int) ∧ x.2.1.length = x.1.length ∧ x.1.length ≤ m + 1 ∧
      (∀ j, j < x.1.length → (x.1.getD j 0 = -1 ∧ ∀ t, t < k → ¬ Both m A B j t) ∨ ∃ t : Nat, x.1.getD j 0 = (t : Int) ∧ t < k ∧ Both m A B j t ∧ x.2.1.getD j 0 = wsum m (wf w) t ∧ ∀ t', t' < k → Both m A B j t' → wsum m (wf w) t' ≤ wsum m (wf w) t) ∧
      (∀ t, t < k → ∀ j, Both m A B j t → j < x.1.length) ∧ (x.1.length = 0 ∨ ∃ t, t < k ∧ Both m A B (x.1.length - 1) t)) (Nat.zero_le _) ⟨rfl, rfl, Nat.zero_le _, fun j hj => absurd hj (Nat.not_lt_zero j), none_all, .inl rfl⟩ ?_) fun l hl => gSome (.inr ⟨rfl, hW, hl⟩)
  rintro k ⟨v1, v2, _⟩ hk ⟨rfl, q1, q2, q3, q4, q5⟩
  simp only at q1 q2 q3 q4 q5
  simp only [cs_len, rkL_len, cs_get, toNat_nat, shl_nat', hwl]
  refine gIte (fun h1 => ?_) fun h1 => gSome ?_
  rotate_left
  · have e : k = 2 ^ m := by omega
    subst e
    have z0 : Both m A B 0 0 := ⟨cnt_zero m, hA.rk_zero, hB.rk_zero⟩
    have l0 := q4 0 hp2 0 z0
    refine ⟨v1.length - 1, by omega, q5.resolve_left (by omega), fun t ht j hj => by have := q4 t ht j hj; omega, fun j hj => ?_⟩
    have hex : ∃ t, t < 2 ^ m ∧ Both m A B j t := by
      obtain ⟨t, t1, t2⟩ := q5.resolve_left (by omega)
      have dn : ∀ d j, j + d = v1.length - 1 → ∃ t, t < 2 ^ m ∧ Both m A B j t := by
        intro d
        induction d with
        | zero => intro j hjd; have e : j = v1.length - 1 := by omega
                  subst e; exact ⟨t, t1, t2⟩
        | succ d ih =>
          intro j hjd
          obtain ⟨t', a1, a2⟩ := ih (j + 1) (by omega)
          exact a2.down hA hB a1
      exact dn (v1.length - 1 - j) j (by omega)
    rcases q3 j (by omega) with ⟨_, a2⟩ | ⟨t, a1, a2, a3, _, a5⟩
    · obtain ⟨t, t1, t2⟩ := hex
      exact absurd t2 (a2 t t1)
    · exact ⟨t, a1, a2, a3, a5⟩
  have hk' : k < 2 ^ m := by omega
  refine gBindE (meet_size_nat (by omega)) ?_
  rw [size_of_lt hk' h8, rkL_get m A hk', rkL_get m B hk']
  have hcm := cnt_le m k
  refine gChk (by omega) (gIte (fun q => gSome ⟨hk', by simp, q1, q2, fun j hj => ?_, ?_, ?_⟩) fun q => ?_)
  · have hnb : ∀ j, ¬ Both m A B j k := fun j z => by
      obtain ⟨z1, z2, z3⟩ := z
      rcases q with q | q <;> omega
    rcases q3 j hj with ⟨a1, a2⟩ | ⟨t, a1, a2, a3, a4, a5⟩
    · exact .inl ⟨a1, step_all a2 (hnb j)⟩
    · exact .inr ⟨t, a1, by omega, a3, a4, step_all a5 fun z => absurd z (hnb j)⟩
  · refine step_all q4 fun j z => ?_
    obtain ⟨z1, z2, z3⟩ := z
    rcases q with q | q <;> omega
  · rcases q5 with z | ⟨t, t1, t2⟩
    · exact .inl z
    · exact .inr ⟨t, by omega, t2⟩
  have hB1 : Both m A B (cnt m k) k := ⟨rfl, by omega, by omega⟩
  generalize hce : cnt m k = c at *
  have hnb : ∀ j, j ≠ c → ¬ Both m A B j k := fun j hj z => hj (by have := z.1; omega)
  -- its weight
  refine gBind (R := fun v => v = wsum m (wf w) k) (gFor m (fun j (x : Int × Int) => x.2 = (j : Int) ∧ x.1 = sumN j fun i => if k.testBit i = true then wf w i else 0) (Nat.zero_le _) ⟨rfl, rfl⟩ ?_) ?_
  · rintro j ⟨_, _⟩ hj ⟨rfl, rfl⟩
    simp only [toNat_nat, shl_nat', bitI]
    refine gIte (fun h2 => gChk (by omega) ?_) fun h2 => gSome (by have e : j = m := (by omega); subst e; rfl)
    have hj' : j < m := by omega
    have b1 := hW.2 j hj'
    have b2 := sumN_abs8 (n := j) (g := fun i => if k.testBit i = true then wf w i else 0) (c := 1000) (by omega) fun i hi => by
      have := hW.2 i (by omega)
      show _ ≤ ite (k.testBit i = true) (wf w i) 0 ∧ ite (k.testBit i = true) (wf w i) 0 ≤ _
      split <;> omega
    have em : w.getD j 0 * (if k.testBit j = true then 1 else 0) = if k.testBit j = true then wf w j else 0 := by
      unfold wf
      split <;> simp
    rw [em]
    have b3 : -1000 ≤ (if k.testBit j = true then wf w j else 0) ∧ (if k.testBit j = true then wf w j else 0) ≤ 1000 := by split <;> omega
    refine gChk ⟨by omega, by omega, by omega⟩ (gSome ⟨hj', by simp, by simp only [sumN]⟩)
  rintro _ rfl
  have hwk := wb k
  -- room for it
  refine gBind (R := fun z => z.1.length = max v1.length (c + 1) ∧ z.2.length = max v1.length (c + 1) ∧ ∀ j, j < max v1.length (c + 1) → z.1.getD j 0 = (if j < v1.length then v1.getD j 0 else -1) ∧ z.2.getD j 0 = if j < v1.length then v2.getD j 0 else 0) (gFor (k0 := v1.length) (max v1.length (c + 1)) (fun n (x : List Int × List Int) => v1.length ≤ n ∧ x.1.length = n ∧ x.2.length = n ∧ ∀ j, j < n → x.1.getD j 0 = (if j < v1.length then v1.getD j 0 else -1) ∧ x.2.getD j 0 = if j < v1.length then v2.getD j 0 else 0) (by omega) ⟨Nat.le_refl _, rfl, q1, fun j hj => by rw [if_pos hj, if_pos hj]; exact ⟨rfl, rfl⟩⟩ ?_) ?_
  · rintro n ⟨v8, v9⟩ hn ⟨n0, n1, n2, n3⟩
    simp only at n1 n2 n3
    dsimp only
    refine gIte (fun h2 => gChk ⟨by rw [List.length_append]; simp only [List.length_cons, List.length_nil]; omega, by rw [List.length_append]; simp only [List.length_cons, List.length_nil]; omega⟩ (gSome ⟨by omega, by omega, by simp [n1], by simp [n2], fun j hj => ?_⟩)) fun h2 => gSome ⟨by show v8.length = _; omega, by show v9.length = _; omega, fun j hj => n3 j (by omega)⟩
    rw [app_getI, app_getI, n1, n2]
    rcases Nat.lt_succ_iff_lt_or_eq.1 hj with d | d
    · rw [if_pos d, if_pos d]; exact n3 j d
    · subst d
      rw [if_neg (by omega), if_pos rfl, if_neg (by omega), if_pos rfl, if_neg (by omega), if_neg (by omega)]
      exact ⟨rfl, rfl⟩
  rintro ⟨v10, v11⟩ ⟨n1, n2, n3⟩
  simp only at n1 n2 n3
  obtain ⟨g1, g2⟩ := n3 c (by omega)
  have hold : ∀ j, j < v10.length → j ≠ c → (v10.getD j 0 = -1 ∧ ∀ t, t < k + 1 → ¬ Both m A B j t) ∨ ∃ t : Nat, v10.getD j 0 = (t : Int) ∧ t < k + 1 ∧ Both m A B j t ∧ v11.getD j 0 = wsum m (wf w) t ∧ ∀ t', t' < k + 1 → Both m A B j t' → wsum m (wf w) t' ≤ wsum m (wf w) t := fun j hj hjc => by
    obtain ⟨e1, e2⟩ := n3 j (by omega)
    rw [e1, e2]
    by_cases d : j < v1.length
    · rw [if_pos d, if_pos d]
      rcases q3 j d with ⟨a1, a2⟩ | ⟨t, a1, a2, a3, a4, a5⟩
      · exact .inl ⟨a1, step_all a2 (hnb j hjc)⟩
      · exact .inr ⟨t, a1, by omega, a3, a4, step_all a5 fun z => absurd z (hnb j hjc)⟩
    · rw [if_neg d]
      exact .inl ⟨rfl, step_all (fun t ht z => d (q4 t ht j z)) (hnb j hjc)⟩
  have hlast : v10.length = 0 ∨ ∃ t, t < k + 1 ∧ Both m A B (v10.length - 1) t := by
    rcases Nat.lt_or_ge c v1.length with d | d
    · have : v10.length = v1.length := by omega
      rw [this]
      rcases q5 with z | ⟨t, t1, t2⟩
      · omega
      · exact .inr ⟨t, by omega, t2⟩
    · have : v10.length - 1 = c := by omega
      rw [this]
      exact .inr ⟨k, by omega, hB1⟩
  have hall : ∀ t, t < k + 1 → ∀ j, Both m A B j t → j < v10.length := step_all (fun t ht j z => by have := q4 t ht j z; omega) fun j z => by
    rcases Classical.em (j = c) with d | d
    · omega
    · exact absurd z (hnb j d)
  -- what stands there
  have there : (v10.getD c 0 = -1 ∧ ∀ t, t < k → ¬ Both m A B c t) ∨ ∃ t : Nat, v10.getD c 0 = (t : Int) ∧ t < k ∧ Both m A B c t ∧ v11.getD c 0 = wsum m (wf w) t ∧ ∀ t', t' < k → Both m A B c t' → wsum m (wf w) t' ≤ wsum m (wf w) t := by
    rw [g1, g2]
    by_cases d : c < v1.length
    · rw [if_pos d, if_pos d]; exact q3 c d
    · rw [if_neg d]; exact .inl ⟨rfl, fun t ht z => d (q4 t ht c z)⟩
  simp only [toNat_nat]
  have cl1 : c < v10.length := by clear there; omega
  have cl2 : c < v11.length := by clear there; omega
  have le1 : v10.length ≤ m + 1 := by clear there; omega
  have le2 : v11.length = v10.length := by clear there; omega
  refine gChk (by clear there; omega) (gIte (fun q => gChk (by clear there; omega) (gSome ⟨hk', by simp, by simp [n1, n2], by rw [List.length_set]; exact le1, fun j hj => ?_, by simpa using hall, by simpa using hlast⟩)) fun q => gSome ⟨hk', by simp, le2, le1, fun j hj => ?_, hall, hlast⟩)
  · rw [List.length_set] at hj
    rw [set_getD _ cl1, set_getD _ cl2]
    by_cases d : j = c
    · subst d
      rw [if_pos rfl, if_pos rfl]
      refine .inr ⟨k, rfl, by omega, hB1, rfl, step_all (fun t' ht' z => ?_) fun _ => Int.le_refl _⟩
      rcases there with ⟨_, a2⟩ | ⟨t, a1, a2, a3, a4, a5⟩
      · exact absurd z (a2 t' ht')
      · have := a5 t' ht' z
        omega
    · rw [if_neg d, if_neg d]; exact hold j hj d
  · by_cases d : j = c
    · subst d
      rcases there with ⟨a1, _⟩ | ⟨t, a1, a2, a3, a4, a5⟩
      · exact absurd (.inl (by omega)) q
      · exact .inr ⟨t, a1, by omega, a3, a4, step_all a5 fun _ => by omega⟩
    · exact hold j hj d
end
/-! ### what a set spans -/
theorem Spanned_ok {m : Nat} {B : List Nat} (h : Mat m B) {s : Nat} (hs : s < 2 ^ m) : Gets (meet_Spanned m (cs B) m (cs B) s) (fun r => r.2 = 0 ∧ ∃ c : Nat, r.1 = (c : Int) ∧ IsCl m B s c) := by
  have h8 := h.m8
  have h256 := pow_le8 h8
  unfold meet_Spanned
  refine gBindE (both_ok h h) (gIte (fun q => absurd rfl q) fun _ => gChk (fun _ => by omega) ?_)
  simp only [toNat_nat, shl_nat']
  refine gIte (fun q => by omega) fun _ => gBindE (ranks_ok h) (gBindE (ranks_ok h) ?_)
  refine gBind (R := fun v => ∃ c : Nat, v = (c : Int) ∧ IsCl m B s c) (gFor (m + 2) (fun k (x : Int × Bool) => ∃ v : Nat, x.1 = (v : Int) ∧ v < 2 ^ m ∧ Inc s v ∧ rk m B v = rk m B s ∧ ((x.2 = true ∧ k ≤ cnt m v) ∨ (x.2 = false ∧ ∀ j, j < m → v.testBit j = false → rk m B (v ||| 2 ^ j) ≠ rk m B v))) (Nat.zero_le _) ⟨s, rfl, hs, Inc.refl s, rfl, .inl ⟨rfl, Nat.zero_le _⟩⟩ ?_) fun v hv => gSome ⟨rfl, hv⟩
  rintro k ⟨_, v1⟩ hk ⟨v, rfl, w1, w2, w3, w4⟩
  have hcv := cnt_le m v
  rcases w4 with ⟨e, w4⟩ | ⟨e, w4⟩
  rotate_left
  · simp only at e
    subst e
    refine gIte (fun q => absurd q (by simp)) fun _ => gSome ⟨v, rfl, w1, fun i hi => ?_⟩
    constructor
    · intro hb
      rcases dich (s.testBit i) with c | c
      · refine .inr ?_
        have k1 := h.rk_mono (s := s ||| 2 ^ i) (t := v) (inc_or w2 (inc_pow hb))
        have k2 := h.rk_mono (inc_or_l s (2 ^ i))
        omega
      · exact .inl c
    · rintro (c | c)
      · exact w2 i c
      · rcases dich (v.testBit i) with d | d
        · exact absurd (h.rk_stay w2 c) (w4 i hi d)
        · exact d
  · simp only at e
    subst e
    refine gIte (fun _ => ?_) fun q => absurd rfl q
    refine gBind (R := fun z => ∃ u : Nat, z.1 = (u : Int) ∧ u < 2 ^ m ∧ Inc s u ∧ rk m B u = rk m B s ∧ ((z.2 = true ∧ cnt m v < cnt m u) ∨ (z.2 = false ∧ ∀ j, j < m → u.testBit j = false → rk m B (u ||| 2 ^ j) ≠ rk m B u))) (gFor m (fun n (x : Int × Bool × Int) => x.2.2 = (n : Int) ∧ ∃ u : Nat, x.1 = (u : Int) ∧ u < 2 ^ m ∧ Inc v u ∧ rk m B u = rk m B s ∧ ((x.2.1 = true ∧ cnt m v < cnt m u) ∨ (x.2.1 = false ∧ u = v ∧ ∀ j, j < n → u.testBit j = false → rk m B (u ||| 2 ^ j) ≠ rk m B u))) (Nat.zero_le _) ⟨rfl, v, rfl, w1, Inc.refl v, w3, .inr ⟨rfl, rfl, none_all⟩⟩ ?_) ?_
    · rintro n ⟨_, v4, _⟩ hn ⟨rfl, u, rfl, u1, u2, u3, u4⟩
      simp only at u4
      simp only [toNat_nat, shl_nat', bitI, or_nat, cs_len, rkL_len, cs_get]
      refine gIte (fun h1 => ?_) fun h1 => gSome ⟨u, rfl, u1, w2.trans u2, u3, ?_⟩
      rotate_left
      · rcases u4 with z | ⟨z1, _, z3⟩
        · exact .inl z
        · exact .inr ⟨z1, fun j hj => z3 j (by omega)⟩
      have hn' : n < m := by omega
      have hor := or_lt u1 (pow_lt hn')
      rw [rkL_get m B hor, rkL_get m B u1]
      refine gChk ⟨by omega, fun _ => by omega, fun _ => by omega, fun _ => by omega, fun _ => by omega, fun _ => by omega, fun _ => by omega⟩ ?_
      rcases dich (u.testBit n) with c | c
      rotate_left
      · refine gIte (fun q => absurd q.1 (by simp [c])) fun _ => gSome ⟨hn', by simp, u, rfl, u1, u2, u3, ?_⟩
        rcases u4 with z | ⟨z1, z2, z3⟩
        · exact .inl z
        · exact .inr ⟨z1, z2, step_all z3 fun z => by rw [c] at z; cases z⟩
      · by_cases d : rk m B (u ||| 2 ^ n) = rk m B u
        · refine gIte (fun _ => gChk (by omega) (gSome ⟨hn', by simp, u ||| 2 ^ n, rfl, hor, u2.trans (inc_or_l _ _), by rw [d, u3], .inl ⟨rfl, ?_⟩⟩)) fun q => absurd ⟨by simp [c], .inl (by rw [d])⟩ q
          rw [cnt_add hn' c]
          have := cnt_le_of_inc (m := m) u2
          omega
        · refine gIte (fun q => absurd q.2 (fun z => z.elim (fun z => d (by omega)) fun z => d (by omega))) fun _ => gSome ⟨hn', by simp, u, rfl, u1, u2, u3, ?_⟩
          rcases u4 with z | ⟨z1, z2, z3⟩
          · exact .inl z
          · exact .inr ⟨z1, z2, step_all z3 fun _ => d⟩
    · rintro ⟨_, v7⟩ ⟨u, rfl, u1, u2, u3, u4⟩
      refine gSome ⟨by omega, u, rfl, u1, u2, u3, ?_⟩
      rcases u4 with ⟨z1, z2⟩ | z
      · exact .inl ⟨z1, by omega⟩
      · exact .inr z
end Go.SH
