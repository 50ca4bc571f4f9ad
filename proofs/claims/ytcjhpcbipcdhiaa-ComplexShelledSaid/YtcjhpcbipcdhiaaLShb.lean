/-
  The law ComplexShelled: shellings, restrictions, and the numbers h. Conditions: the order is no longer than 2^44.
-/
import Derived.Test.YtcjhpcbipcdhiaaLSha
import Derived.Test.YtcjhpcbipcdhiaaLCc
import Derived.Test.YtcjhpcbipcdhiaaLBk
import Derived.Test.YtcjhpcbipcdhiaaLR
import Derived.Test.YtcjhpcbipcdhiaaAxP
import Derived.Test.YtcjhpcbipcdhiaaSkComplexShelled
set_option linter.unusedSimpArgs false
set_option linter.unusedVariables false
namespace Go.SH
open Go Go.AX

theorem EqualI_spec (s1 s2 : List Int) : Gets (slices_Equal_int_int s1 s2) (fun r => r = true ↔ s1 = s2) := by
  unfold slices_Equal_int_int
  refine gIte (fun q => gSome ⟨fun h => by simp at h, fun e => absurd (by rw [e]) q⟩) fun q => ?_
  have hl : s1.length = s2.length := by omega
  refine gBind (R := fun z => match z with | .inl _ => s1 = s2 | .inr r => r = false ∧ s1 ≠ s2)
    (gFor s1.length (fun k v => v = (k : Int) ∧ ∀ j, j < k → s1.getD j 0 = s2.getD j 0) (Nat.zero_le _) ⟨rfl, fun j hj => absurd hj (Nat.not_lt_zero j)⟩ ?_) ?_
  · rintro k _ hk ⟨rfl, hb⟩
    simp only [toNat_nat]
    refine gIte (fun h1 => gChk (by omega) (gIte (fun q2 => gSome ⟨rfl, fun e => q2 (by rw [e])⟩) fun q2 => gSome ⟨by omega, by simp, fun j hj => ?_⟩)) fun h1 => gSome (list_ext_getD hl fun j hj => hb j (by omega))
    rcases Nat.lt_succ_iff_lt_or_eq.1 hj with c | rfl
    · exact hb j c
    · exact Classical.not_not.1 q2
  · rintro (u | rr) hz
    · exact gSome ⟨fun _ => hz, fun _ => rfl⟩
    · obtain ⟨rfl, hz⟩ := hz
      exact gSome ⟨fun h => by simp at h, fun e => absurd e hz⟩

/-- A complex, all of whose facets are of one size, and its facets in an order. -/
structure Shv (m : Nat) (L O : List Nat) : Prop where
  cx : Cx m L
  perm : O.Perm L
  pure : ∀ s, s ∈ L → cnt m s = dimL m L
theorem Shv.lt {m : Nat} {L O : List Nat} (h : Shv m L O) {t : Nat} (ht : t < O.length) : O.getD t 0 ∈ L ∧ O.getD t 0 < 2 ^ m := by
  have := h.perm.mem_iff.1 (mem_getD.2 ⟨t, ht, rfl⟩)
  exact ⟨this, h.cx.lt _ this⟩
theorem cs_takeS (L : List Nat) (k : Nat) : (cs L).take k = cs (L.take k) := by simp [cs, List.map_take]
theorem take_getD {O : List Nat} {i j : Nat} (h : j < i) : (O.take i).getD j 0 = O.getD j 0 := by
  rw [List.getD_eq_getElem?_getD, List.getD_eq_getElem?_getD, List.getElem?_take, if_pos h]
theorem and_lt8 {m a b : Nat} (h8 : m ≤ 8) (h : a < 2 ^ m) : a &&& b < 2 ^ m := Inc.lt (inc_and_l a b) h
theorem sort_perm {a2 : List Int} {L : List Nat} (h : sortL a2 = cs L) : ∃ O, a2 = cs O ∧ O.Perm L := by
  have hp : (sortL a2).Perm a2 := List.mergeSort_perm _ _
  rw [h] at hp
  have hcs : a2 = cs (a2.map Int.toNat) := cs_of fun k hk => by
    have : a2.getD k 0 ∈ a2 := by rw [List.getD_eq_getElem?_getD, List.getElem?_eq_getElem hk]; exact List.getElem_mem hk
    obtain ⟨a, _, e⟩ := List.mem_map.1 (show a2.getD k 0 ∈ L.map Nat.cast from hp.symm.mem_iff.1 this)
    omega
  refine ⟨a2.map Int.toNat, hcs, ?_⟩
  have h2 := hp.map Int.toNat
  have e : (cs L).map Int.toNat = L := by
    unfold cs
    rw [List.map_map]
    simp [Function.comp_def]
  rw [e] at h2
  exact h2.symm

theorem Shells_spec (n : Int) (a1 a2 : List Int) (h1 : a1.length ≤ 9223372036854775807) (h2 : a2.length ≤ 17592186044416) :
    Gets (complex_Shells n a1 a2) (fun r => (r.2 ≠ 0 ∧ ¬ ∃ m L O, n = (m : Nat) ∧ a1 = cs L ∧ a2 = cs O ∧ Shv m L O) ∨ (r.2 = 0 ∧ ∃ m L O, n = (m : Nat) ∧ a1 = cs L ∧ a2 = cs O ∧ Shv m L O ∧ (r.1 = true ↔ Shell m O))) := by
  unfold complex_Shells
  refine gBind (complex_Check_spec n a1 h1) ?_
  rintro y (⟨rfl, m, L, rfl, rfl, hC⟩ | ⟨hne, hn⟩)
  rotate_left
  · exact gIte (fun _ => gSome (.inl ⟨hne, fun ⟨m, L, O, e1, e2, e3, hv⟩ => hn ⟨m, L, e1, e2, hv.cx⟩⟩)) fun q => absurd hne q
  have h8 := hC.m8
  have h256 := pow_le8 h8
  have hlen := hC.len
  have hL0 : 0 < L.length := by
    rcases Nat.eq_zero_or_pos L.length with c | c
    · exact absurd (List.length_eq_zero_iff.1 c) hC.ne
    · exact c
  refine gIte (fun q => absurd rfl q) fun _ => gChk h2 (gChk (by omega) (gBind (EqualI_spec _ _) fun y1 hy1 => gIte (fun q => gSome (.inl ⟨by simp, fun ⟨m', L', O, e1, e2, e3, hv⟩ => q (hy1.2 ?_)⟩)) fun q => ?_))
  · have d1 : m = m' := Int.ofNat.inj e1
    have d2 := cs_inj e2
    subst d1 d2 e3
    have hnd : O.Nodup := hv.perm.nodup_iff.2 hC.toFam.nodup
    obtain ⟨K, k1, k2, k3⟩ := sortS h8 O (fun s hs => hC.lt s (hv.perm.mem_iff.1 hs)) hnd
    rw [k1, k2.ext hC.toFam fun s => by rw [k3]; exact hv.perm.mem_iff]
  obtain ⟨O, rfl, hp⟩ := sort_perm (hy1.1 (Classical.not_not.1 q))
  have hOl : O.length = L.length := hp.length_eq
  refine gBind (R := fun z => match z with | .inl _ => ∀ k, k < L.length → cnt m (L.getD k 0) = cnt m (L.getD 0 0) | .inr r => r.2 ≠ 0 ∧ ∃ k, k < L.length ∧ cnt m (L.getD k 0) ≠ cnt m (L.getD 0 0))
    (gFor L.length (fun k v => v = (k : Int) ∧ ∀ j, j < k → cnt m (L.getD j 0) = cnt m (L.getD 0 0)) (Nat.zero_le _) ⟨rfl, fun j hj => absurd hj (Nat.not_lt_zero j)⟩ ?_) ?_
  · rintro k _ hk ⟨rfl, hb⟩
    simp only [cs_len, cs_get, toNat_nat]
    refine gIte (fun q1 => gChk (by omega) ?_) fun q1 => gSome fun j hj => hb j (by omega)
    have hk' : k < L.length := by omega
    have b1 := hC.lt _ (mem_getD.2 ⟨k, hk', rfl⟩)
    have b2 := hC.lt _ (mem_getD.2 ⟨0, hL0, rfl⟩)
    refine gBindE (complex_size_nat (by omega)) (gChk (by omega) ?_)
    have e0 : (cs L).getD 0 0 = ((L.getD 0 0 : Nat) : Int) := cs_get L 0
    refine gBindE (complex_size_nat (by omega)) ?_
    rw [size_of_lt b1 h8, size_of_lt b2 h8]
    refine gIte (fun q2 => gSome ⟨by simp, k, hk', by omega⟩) fun q2 => gSome ⟨hk', by simp, fun j hj => ?_⟩
    rcases Nat.lt_succ_iff_lt_or_eq.1 hj with c | rfl
    · exact hb j c
    · omega
  rintro (u | rr) hz
  rotate_left
  · obtain ⟨hz, k, k1, k2⟩ := hz
    refine gSome (.inl ⟨hz, fun ⟨m', L', O', e1, e2, e3, hv⟩ => k2 ?_⟩)
    have d1 : m = m' := Int.ofNat.inj e1
    have d2 := cs_inj e2
    subst d1 d2
    rw [hv.pure _ (mem_getD.2 ⟨k, k1, rfl⟩), hv.pure _ (mem_getD.2 ⟨0, hL0, rfl⟩)]
  have hpu : ∀ s, s ∈ L → cnt m s = dimL m L := fun s hs => by
    have hall : ∀ s, s ∈ L → cnt m s = cnt m (L.getD 0 0) := fun s hs => by
      obtain ⟨k, k1, rfl⟩ := mem_getD.1 hs
      exact hz k k1
    have a1 := cnt_le_dim (m := m) hs
    have a2 : dimL m L ≤ cnt m (L.getD 0 0) := (foldl_max_le (f := cnt m)).2 ⟨by omega, fun f hf => Nat.le_of_eq (hall f hf)⟩
    have := hall s hs
    omega
  have hv : Shv m L O := ⟨hC, hp, hpu⟩
  refine gBind (R := fun z => match z with | .inl _ => Shell m O | .inr r => r = (false, 0) ∧ ¬ Shell m O)
    (gFor O.length (fun i v => v = (i : Int) ∧ ∀ i', i' < i → ∀ j, j < i' → ∃ k, k < i' ∧ cnt m (O.getD i' 0 &&& O.getD k 0) + 1 = cnt m (O.getD i' 0) ∧ Inc (O.getD i' 0 &&& O.getD j 0) (O.getD k 0)) (Nat.zero_le _) ⟨rfl, fun j hj => absurd hj (Nat.not_lt_zero j)⟩ ?_) ?_
  rotate_left
  · rintro (u | rr) hz
    · exact gSome (.inr ⟨rfl, m, L, O, rfl, rfl, rfl, hv, by simpa using hz⟩)
    · obtain ⟨rfl, hz⟩ := hz
      exact gSome (.inr ⟨rfl, m, L, O, rfl, rfl, rfl, hv, by simpa using hz⟩)
  rintro i _ hi ⟨rfl, hb⟩
  simp only [cs_len, cs_get, toNat_nat, cs_takeS]
  refine gIte (fun q1 => ?_) fun q1 => gSome fun i' hi' => hb i' (by omega)
  have hi' : i < O.length := by omega
  have htl : (O.take i).length = i := by rw [List.length_take]; omega
  obtain ⟨f1, f2⟩ := hv.lt hi'
  refine gChk (by omega) (gChk (by omega) ?_)
  refine gBind (R := fun z => match z with | .inl _ => ∀ j, j < i → ∃ k, k < i ∧ cnt m (O.getD i 0 &&& O.getD k 0) + 1 = cnt m (O.getD i 0) ∧ Inc (O.getD i 0 &&& O.getD j 0) (O.getD k 0) | .inr r => r = (false, 0) ∧ ¬ Shell m O)
    (gFor i (fun j v => v = (j : Int) ∧ ∀ j', j' < j → ∃ k, k < i ∧ cnt m (O.getD i 0 &&& O.getD k 0) + 1 = cnt m (O.getD i 0) ∧ Inc (O.getD i 0 &&& O.getD j' 0) (O.getD k 0)) (Nat.zero_le _) ⟨rfl, fun j hj => absurd hj (Nat.not_lt_zero j)⟩ ?_) ?_
  rotate_left
  · rintro (u | rr) hz
    · refine gSome ⟨hi', by simp, fun i' hlt => ?_⟩
      rcases Nat.lt_succ_iff_lt_or_eq.1 hlt with c | rfl
      · exact hb i' c
      · exact hz
    · exact gSome hz
  rintro j _ hj ⟨rfl, hc⟩
  simp only [cs_len, cs_get, toNat_nat, htl]
  refine gIte (fun q2 => ?_) fun q2 => gSome fun j' hj' => hc j' (by omega)
  have hj' : j < i := by omega
  refine gChk (by omega) (gChk (by omega) ?_)
  refine gBind (R := fun r => r = true ↔ ∃ k, k < i ∧ cnt m (O.getD i 0 &&& O.getD k 0) + 1 = cnt m (O.getD i 0) ∧ Inc (O.getD i 0 &&& O.getD j 0) (O.getD k 0))
    (gFor i (fun k (x : Bool × Int) => x.2 = (k : Int) ∧ (x.1 = true ↔ ∃ k', k' < k ∧ cnt m (O.getD i 0 &&& O.getD k' 0) + 1 = cnt m (O.getD i 0) ∧ Inc (O.getD i 0 &&& O.getD j 0) (O.getD k' 0))) (Nat.zero_le _) ⟨rfl, fun h => by simp at h, fun ⟨k', h, _⟩ => absurd h (Nat.not_lt_zero k')⟩ ?_) ?_
  · rintro k ⟨b, _⟩ hk ⟨rfl, hbk⟩
    simp only at hbk ⊢
    simp only [toNat_nat, cs_get]
    refine gIte (fun q3 => ?_) fun q3 => gSome (by have e : k = i := by omega
                                                   subst e; exact hbk)
    have hk' : k < i := by omega
    have i1 : (O.getD i 0 &&& O.getD k 0) < 2 ^ m := and_lt8 h8 f2
    have hs1 : complex_size (iand ((O.getD i 0 : Nat) : Int) ((O.getD k 0 : Nat) : Int)) = some ((cnt m (O.getD i 0 &&& O.getD k 0) : Nat) : Int) := by
      rw [and_nat, complex_size_nat (by omega), size_of_lt i1 h8]
    have hs2 : complex_size ((O.getD i 0 : Nat) : Int) = some ((cnt m (O.getD i 0) : Nat) : Int) := by
      rw [complex_size_nat (by omega), size_of_lt f2 h8]
    have c8 := cnt_le m (O.getD i 0)
    simp only [take_getD hk', take_getD hj']
    refine gChk (by omega) ?_
    rw [hs1, hs2]
    have step : ∀ P : Prop, (P ↔ b = true ∨ (cnt m (O.getD i 0 &&& O.getD k 0) + 1 = cnt m (O.getD i 0) ∧ Inc (O.getD i 0 &&& O.getD j 0) (O.getD k 0))) → (P ↔ ∃ k', k' < k + 1 ∧ cnt m (O.getD i 0 &&& O.getD k' 0) + 1 = cnt m (O.getD i 0) ∧ Inc (O.getD i 0 &&& O.getD j 0) (O.getD k' 0)) := fun P hP => by
      rw [hP, hbk]
      constructor
      · rintro (⟨k', a, b⟩ | h)
        · exact ⟨k', by omega, b⟩
        · exact ⟨k, by omega, h⟩
      · rintro ⟨k', a, h⟩
        rcases Nat.lt_succ_iff_lt_or_eq.1 a with c | rfl
        · exact .inl ⟨k', c, h⟩
        · exact .inr h
    have hdif : iandnot (iand ((O.getD i 0 : Nat) : Int) ((O.getD j 0 : Nat) : Int)) ((O.getD k 0 : Nat) : Int) = 0 ↔ Inc (O.getD i 0 &&& O.getD j 0) (O.getD k 0) := by
      rw [and_nat, dif_nat]
      constructor
      · intro h x hx
        cases q : (O.getD k 0).testBit x
        · have : (dif (O.getD i 0 &&& O.getD j 0) (O.getD k 0)).testBit x = true := by rw [testBit_dif, hx, q]; rfl
          have e0 : dif (O.getD i 0 &&& O.getD j 0) (O.getD k 0) = 0 := by omega
          rw [e0] at this; simp at this
        · rfl
      · intro h
        have : dif (O.getD i 0 &&& O.getD j 0) (O.getD k 0) = 0 := Nat.eq_of_testBit_eq fun x => by
          rw [testBit_dif, Nat.zero_testBit]
          cases q : (O.getD i 0 &&& O.getD j 0).testBit x
          · rfl
          · rw [h x q]; rfl
        omega
    by_cases hbt : b = true
    · refine gBindE (a := 0) (by rw [if_neg (by simp [hbt])]) (gBindE (a := 0) (by rw [if_neg (by simp [hbt])]) (gChk (by omega) (gSome ⟨hk', by simp, ?_⟩)))
      refine step _ ?_
      rw [decide_eq_true_eq]
      simp [hbt]
    · refine gBindE (a := ((cnt m (O.getD i 0 &&& O.getD k 0) : Nat) : Int)) (by rw [if_pos hbt]) (gBindE (a := ((cnt m (O.getD i 0) : Nat) : Int)) (by rw [if_pos hbt]) (gChk (by omega) (gSome ⟨hk', by simp, ?_⟩)))
      refine step _ ?_
      rw [decide_eq_true_eq, hdif]
      constructor
      · rintro (h | ⟨h3, h4⟩)
        · exact absurd h hbt
        · exact .inr ⟨by omega, h4⟩
      · rintro (h | ⟨h3, h4⟩)
        · exact absurd h hbt
        · exact .inr ⟨by omega, h4⟩
  · intro r hr
    refine gIte (fun q3 => gSome ⟨rfl, fun hS => q3 (hr.2 (hS i hi' j hj'))⟩) fun q3 => gSome ⟨hj', by simp, fun j' hlt => ?_⟩
    rcases Nat.lt_succ_iff_lt_or_eq.1 hlt with c | rfl
    · exact hc j' c
    · exact hr.1 (Classical.not_not.1 q3)
end Go.SH
