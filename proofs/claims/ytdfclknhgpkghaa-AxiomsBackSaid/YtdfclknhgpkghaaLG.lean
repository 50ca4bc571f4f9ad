/-
  A matroid is what each of its families makes: the statement AxiomsBack as a plain law. Conditions: lists are no longer than 2^63 - 1.
-/
import Derived.Test.YtdfclknhgpkghaaLF
import Derived.Test.YtdfclknhgpkghaaLE
import Derived.Test.YtdfclknhgpkghaaSkAxiomsBack
set_option linter.unusedSimpArgs false
set_option linter.unusedVariables false
namespace Go.SH
open Go Go.AX

theorem slices_Equal_self (l : List Int) : slices_Equal_int_int l l = some true := by
  refine Gets.eq ?_
  unfold slices_Equal_int_int
  refine gIte (fun q => absurd rfl q) fun _ => gBind (R := fun z => match z with | .inl _ => True | .inr r => False) (gFor l.length (fun k v => v = (k : Int)) (Nat.zero_le _) rfl ?_) ?_
  · rintro k _ hk rfl
    exact gIte (fun h1 => gChk (by omega) (gIte (fun q => absurd rfl q) fun _ => gSome ⟨by omega, by simp⟩)) fun _ => gSome trivial
  · rintro (u | rr) hz
    · exact gSome rfl
    · exact hz.elim
theorem sets_Family_ok {m : Nat} {L : List Nat} (h : Fam m L) : sets_Family m (cs L) = some 0 := by
  obtain ⟨r, h1, h2⟩ := sets_Family_spec m (cs L) (by have := h.len; simp; omega)
  rcases h2 with ⟨rfl, _⟩ | ⟨_, hn⟩
  · exact h1
  · exact absurd ⟨m, L, rfl, rfl, h⟩ hn
def inds (m : Nat) (B : List Nat) : List Nat := (List.range (2 ^ m)).filter fun s => rk m B s = cnt m s
def circs (m : Nat) (B : List Nat) : List Nat := (List.range (2 ^ m)).filter fun s => Circ m B s
theorem mem_inds {m : Nat} {B : List Nat} {s : Nat} : s ∈ inds m B ↔ s < 2 ^ m ∧ rk m B s = cnt m s := by simp [inds]
theorem mem_circs {m : Nat} {B : List Nat} {s : Nat} : s ∈ circs m B ↔ s < 2 ^ m ∧ Circ m B s := by simp [circs]
theorem Independents_ok {m : Nat} {B : List Nat} (h : Mat m B) : axioms_Independents m (cs B) = some (cs (inds m B), 0) := by
  refine Gets.eq ((axioms_Independents_spec m (cs B) (by have := h.len; simp; omega)).mono fun r hr => ?_)
  rcases hr with ⟨h1, m', B', q1, q2, _, q3⟩ | ⟨_, _, q⟩
  · have : m' = m := by omega
    subst this
    rw [← cs_inj q2] at q3
    exact Prod.ext q3 h1
  · exact absurd ⟨m, B, rfl, rfl, h⟩ q
theorem Circuits_ok {m : Nat} {B : List Nat} (h : Mat m B) : axioms_Circuits m (cs B) = some (cs (circs m B), 0) := by
  refine Gets.eq ((axioms_Circuits_spec m (cs B) (by have := h.len; simp; omega)).mono fun r hr => ?_)
  rcases hr with ⟨h1, m', B', q1, q2, _, q3⟩ | ⟨_, _, q⟩
  · have : m' = m := by omega
    subst this
    rw [← cs_inj q2] at q3
    exact Prod.ext q3 h1
  · exact absurd ⟨m, B, rfl, rfl, h⟩ q

/-- sets.Least: those with no other one within them. -/
theorem sets_Least_ok {m : Nat} {L : List Nat} (hL : Fam m L) : sets_Least m (cs L) = some (cs (L.filter fun s => decide (∀ t, t ∈ L → Inc t s → t = s)), 0) := by
  refine Gets.eq ?_
  have hlen := hL.len
  unfold sets_Least
  refine gBindE (sets_Family_ok hL) (gIte (fun q => absurd rfl q) fun _ => ?_)
  refine gBind (R := fun o => o = cs (L.filter fun s => decide (∀ t, t ∈ L → Inc t s → t = s))) ?_ fun o ho => gSome (by rw [ho])
  unfold sets_least
  refine gBind (R := fun o => o = cs (L.filter fun s => decide (∀ t, t ∈ L → Inc t s → t = s))) (gFor L.length (fun k (x : List Int × Int) => x.2 = (k : Int) ∧ x.1 = cs ((L.take k).filter fun s => decide (∀ t, t ∈ L → Inc t s → t = s))) (Nat.zero_le _) ⟨rfl, rfl⟩ ?_) fun o ho => gSome ho
  rintro k ⟨_, _⟩ hk ⟨rfl, rfl⟩
  simp only [cs_len, cs_get, toNat_nat]
  refine gIte (fun h1 => gChk (by omega) ?_) fun h1 => gSome (by rw [List.take_of_length_le (by omega)])
  have hk' : k < L.length := by omega
  have etake : L.take (k + 1) = L.take k ++ [L.getD k 0] := by
    rw [List.take_add_one, List.getD_eq_getElem?_getD, List.getElem?_eq_getElem hk']; rfl
  have hle : ((L.take k).filter fun s => decide (∀ t, t ∈ L → Inc t s → t = s)).length ≤ 256 := by
    have := List.length_filter_le (fun s => decide (∀ t, t ∈ L → Inc t s → t = s)) (L.take k)
    have := List.length_take_le k L
    omega
  refine gBind (ContainsFunc_spec L _ (fun t => decide (t ≠ L.getD k 0 ∧ Inc t (L.getD k 0))) (by omega) fun t ht => ?_) fun r hr => gIte (fun q => gChk (by simp; omega) (gSome ⟨hk', by simp, ?_⟩)) fun q => gSome ⟨hk', by simp, ?_⟩
  · unfold sets_least_1
    rw [and_nat]
    congr 1
    rw [Bool.eq_iff_iff, decide_eq_true_eq, decide_eq_true_eq, ← sub_iff_and]
    omega
  · show _ = cs _
    rw [etake, List.filter_append, cs_app]
    have : decide (∀ t, t ∈ L → Inc t (L.getD k 0) → t = L.getD k 0) = true := by
      rw [decide_eq_true_eq]
      intro t ht hi
      rcases Nat.decEq t (L.getD k 0) with e | e
      · exact absurd (hr.2 ⟨t, ht, decide_eq_true ⟨e, hi⟩⟩) q
      · exact e
    rw [List.filter_cons, if_pos this]; rfl
  · show _ = cs _
    rw [etake, List.filter_append]
    have : ¬ decide (∀ t, t ∈ L → Inc t (L.getD k 0) → t = L.getD k 0) = true := by
      rw [decide_eq_true_eq]
      intro hall
      obtain ⟨t, ht, hp⟩ := hr.1 (by simpa using q)
      have hp := of_decide_eq_true hp
      exact hp.1 (hall t ht hp.2)
    rw [List.filter_cons, if_neg this]; simp

section
variable {m : Nat} {B : List Nat} (h : Mat m B)
include h
theorem made_ok {indep : Int → Option Bool} {again : Int → List Int → Option (List Int × Int)} {want : List Int}
    (hi : ∀ s : Nat, s < 2 ^ m → indep (s : Int) = some (decide (rk m B s = cnt m s))) (ha : again m (cs B) = some (want, 0)) : axioms_made m want indep again = some ((m : Int), cs B, 0) := by
  refine Gets.eq ?_
  have h8 := h.m8
  have h256 := pow_le8 h8
  have hpos : 0 < 2 ^ m := Nat.pow_pos (by omega)
  unfold axioms_made
  refine gChk (by omega) (gBind (R := fun o => o = cs B) (gFor (2 ^ m) (fun k (x : List Int × Int × Int) => x.2.2 = (k : Int) ∧ x.1 = cs (topI m B k x.2.1) ∧ (-1 ≤ x.2.1 ∧ (k = 0 → x.2.1 ≤ 0)) ∧ x.2.1 ≤ m ∧ (0 < k → ∃ s, s < k ∧ rk m B s = cnt m s ∧ (cnt m s : Int) = x.2.1) ∧ ∀ s, s < k → rk m B s = cnt m s → (cnt m s : Int) ≤ x.2.1) (Nat.zero_le _) ⟨rfl, rfl, ⟨by simp, by simp⟩, by simp, fun q => absurd q (Nat.lt_irrefl 0), fun s hs => absurd hs (Nat.not_lt_zero s)⟩ ?_) ?_)
  · rintro k ⟨x1, v, x3⟩ hk ⟨hx3, hx1, hv1, hv2, hv3, hv4⟩
    simp only at hx1 hx3 hv1 hv2 hv3 hv4 ⊢
    subst hx1 hx3
    simp only [toNat_nat, shl_nat']
    refine gIte (fun h1 => ?_) fun h1 => gSome ?_
    · have hk' : k < 2 ^ m := by omega
      have hck := cnt_le m k
      have hlen : (topI m B k v).length ≤ k := by
        have := List.length_filter_le (fun s => decide (rk m B s = cnt m s) && decide ((cnt m s : Int) = v)) (List.range k)
        simpa [topI] using this
      have sz := axioms_size_nat (show k < 256 by omega)
      rw [size_of_lt hk' h8] at sz
      rw [hi k hk']
      by_cases hI : rk m B k = cnt m k
      · simp only [hI, decide_true, not_true_eq_false, if_false, joinM, sz, Option.bind_some, if_true]
        refine gIte (fun q => gChk (by simp) (gSome ⟨hk', by simp, ?_, ⟨by simp only; omega, fun c => by omega⟩, by simp only; omega, fun _ => ⟨k, Nat.lt_succ_self k, hI, rfl⟩, fun s hs hi => ?_⟩)) fun q => gIte (fun q2 => gChk (by simp; omega) (gSome ⟨hk', by simp, ?_, ⟨hv1.1, fun c => by omega⟩, hv2, fun _ => ⟨k, Nat.lt_succ_self k, hI, q2⟩, fun s hs hi => ?_⟩)) fun q2 => gSome ⟨hk', by simp, ?_, ⟨hv1.1, fun c => by omega⟩, hv2, fun _ => ?_, fun s hs hi => ?_⟩
        · show _ = cs (topI m B (k + 1) (cnt m k : Nat))
          rw [topI_succ h, if_pos ⟨hI, rfl⟩]
          have : topI m B k (cnt m k : Nat) = [] := by
            refine List.filter_eq_nil_iff.2 fun s hs => ?_
            have hs' : s < k := by simpa using hs
            intro c
            simp only [Bool.and_eq_true, decide_eq_true_eq] at c
            have := hv4 s hs' c.1
            omega
          rw [this]; rfl
        · rcases Nat.lt_succ_iff_lt_or_eq.1 hs with c | rfl
          · have := hv4 s c hi; simp only; omega
          · exact Int.le_refl _
        · show _ = cs (topI m B (k + 1) v)
          rw [topI_succ h, if_pos ⟨hI, q2⟩, cs_app]
        · rcases Nat.lt_succ_iff_lt_or_eq.1 hs with c | rfl
          · exact hv4 s c hi
          · simp only; omega
        · show _ = cs (topI m B (k + 1) v)
          rw [topI_succ h, if_neg (by omega)]
        · have hk0 : 0 < k := by
            rcases Nat.eq_zero_or_pos k with c | c
            · subst c
              exfalso
              rw [cnt_zero] at q q2
              have := hv1.2 rfl
              omega
            · exact c
          obtain ⟨s, s1, s2, s3⟩ := hv3 hk0
          exact ⟨s, by omega, s2, s3⟩
        · rcases Nat.lt_succ_iff_lt_or_eq.1 hs with c | rfl
          · exact hv4 s c hi
          · simp only; omega
      · simp only [hI, decide_false, Bool.false_eq_true, not_false_eq_true, if_true, Option.bind_some]
        refine gSome ⟨hk', by simp, ?_, ⟨hv1.1, fun c => by omega⟩, hv2, fun _ => ?_, fun s hs hi => ?_⟩
        · show _ = cs (topI m B (k + 1) v)
          rw [topI_succ h, if_neg (by intro c; exact hI c.1)]
        · have hk0 : 0 < k := by
            rcases Nat.eq_zero_or_pos k with c | c
            · subst c; exact absurd (by rw [h.rk_zero, cnt_zero]) hI
            · exact c
          obtain ⟨s, s1, s2, s3⟩ := hv3 hk0
          exact ⟨s, by omega, s2, s3⟩
        · rcases Nat.lt_succ_iff_lt_or_eq.1 hs with c | rfl
          · exact hv4 s c hi
          · exact absurd hi hI
    · have hkm : k = 2 ^ m := by omega
      subst hkm
      congr 1
      obtain ⟨s0, s1, s2, s3⟩ := hv3 hpos
      have hbas : ∀ b, b ∈ B → (cnt m b : Int) = v := fun b hb => by
        have hbm := h.lt b hb
        have i1 := hv4 b hbm ((h.ind_iff hbm).1 ⟨b, hb, Inc.refl b⟩)
        obtain ⟨b', hb', hin⟩ := (h.ind_iff s1).2 s2
        have := cnt_le_of_inc (m := m) hin
        have := h.eqc b hb b' hb'
        omega
      refine (filter_fam h8 _).ext h.toFam fun s => ?_
      simp only [List.mem_filter, List.mem_range, Bool.and_eq_true, decide_eq_true_eq]
      constructor
      · rintro ⟨s4, s5, s6⟩
        obtain ⟨b', hb', hin⟩ := (h.ind_iff s4).2 s5
        have := hbas b' hb'
        rw [inc_eq_of_cnt (m := m) hin (h.lt b' hb') (by omega)]
        exact hb'
      · intro hs
        have hsm := h.lt s hs
        exact ⟨hsm, (h.ind_iff hsm).1 ⟨s, hs, Inc.refl s⟩, hbas s hs⟩
  · rintro o rfl
    exact gBindE h.check (gIte (fun q => absurd rfl q) fun _ => gBindE ha (gBindE (slices_Equal_self want) (gIte (fun q => absurd rfl q) fun _ => gSome rfl)))

theorem OfIndependents_ok : axioms_OfIndependents m (cs (inds m B)) = some ((m : Int), cs B, 0) := by
  have hf : Fam m (inds m B) := filter_fam h.m8 _
  unfold axioms_OfIndependents
  rw [sets_Family_ok hf, Option.bind_some, if_neg (by simp), made_ok h (fun s hs => ?_) (Independents_ok h)]
  · rfl
  · unfold axioms_OfIndependents_1
    obtain ⟨r, h1, h2⟩ := BinarySearch_spec (cs (inds m B)) (s : Nat) hf.Rise (by have := hf.len; simp; omega)
    rw [h1, Option.bind_some]
    congr 1
    rw [Bool.eq_iff_iff, h2, cs_mem, mem_inds, decide_eq_true_eq]
    exact ⟨fun q => q.2, fun q => ⟨hs, q⟩⟩
theorem OfCircuits_ok : axioms_OfCircuits m (cs (circs m B)) = some ((m : Int), cs B, 0) := by
  have hf : Fam m (circs m B) := filter_fam h.m8 _
  have hlen := hf.len
  unfold axioms_OfCircuits
  rw [sets_Family_ok hf, Option.bind_some, if_neg (by simp), made_ok h (fun s hs => ?_) (Circuits_ok h)]
  · rfl
  · unfold axioms_OfCircuits_1
    obtain ⟨r, h1, h2⟩ := ContainsFunc_spec (circs m B) (fun x0 => axioms_OfCircuits_1_1 x0 s) (fun c => decide (Inc c s)) (by omega) fun c hc => by
      unfold axioms_OfCircuits_1_1
      rw [and_nat]
      congr 1
      rw [Bool.eq_iff_iff, decide_eq_true_eq, decide_eq_true_eq, ← sub_iff_and]; omega
    rw [h1, Option.bind_some]
    congr 1
    rw [Bool.eq_iff_iff, decide_eq_true_eq, decide_eq_true_eq, h.ind_circ hs, h2]
    constructor
    · rintro q ⟨C, c1, c2, c3⟩
      exact q ⟨C, mem_circs.2 ⟨c1, c2⟩, decide_eq_true c3⟩
    · rintro q ⟨C, c1, c2⟩
      obtain ⟨c3, c4⟩ := mem_circs.1 c1
      exact q ⟨C, c3, c4, of_decide_eq_true c2⟩
theorem OfRanks_ok : axioms_OfRanks m (cs (rkL m B)) = some ((m : Int), cs B, 0) := by
  have h8 := h.m8
  have h256 := pow_le8 h8
  unfold axioms_OfRanks
  rw [chk_pos (by omega), if_neg (by simp only [cs_len, rkL_len, toNat_nat, shl_nat']; omega), made_ok h (fun s hs => ?_) (axioms_Ranks_ok h)]
  · rfl
  · unfold axioms_OfRanks_1
    simp only [cs_len, rkL_len, toNat_nat, cs_get, rkL_get m B hs]
    rw [chk_pos (by omega), axioms_size_nat (by omega), size_of_lt hs h8, Option.bind_some]
    congr 1
    rw [Bool.eq_iff_iff, decide_eq_true_eq, decide_eq_true_eq]; omega
theorem hull_ok {s : Nat} (hs : s < 2 ^ m) : Gets (axioms_OfFlats_1 s m (cs (flats m B))) (fun r => ∃ c : Nat, r = (c : Int) ∧ IsCl m B s c) := by
  have h8 := h.m8
  have h256 := pow_le8 h8
  have hpos : 0 < 2 ^ m := Nat.pow_pos (by omega)
  have hf : Fam m (flats m B) := filter_fam h8 _
  have hlen := hf.len
  unfold axioms_OfFlats_1
  simp only [toNat_nat, shl_nat', cs_len, cs_get]
  refine gChk (by omega) (gBind (R := fun r => ∃ c : Nat, r = (c : Int) ∧ IsCl m B s c) (gFor (flats m B).length (fun k (x : Int × Int) => x.2 = (k : Int) ∧ ∃ c : Nat, x.1 = (c : Int) ∧ c < 2 ^ m ∧ ∀ i, i < m → (c.testBit i = true ↔ ∀ j, j < k → Inc s ((flats m B).getD j 0) → ((flats m B).getD j 0).testBit i = true)) (Nat.zero_le _) ⟨rfl, 2 ^ m - 1, by simp only; omega, by omega, fun i hi => ⟨fun _ j hj => absurd hj (Nat.not_lt_zero j), fun _ => by rw [Nat.testBit_two_pow_sub_one]; simpa using hi⟩⟩ ?_) fun r hr => gSome hr)
  rintro k ⟨_, _⟩ hk ⟨rfl, c, rfl, hc, hall⟩
  simp only [toNat_nat]
  refine gIte (fun h1 => gChk (by omega) ?_) fun h1 => gSome ⟨c, rfl, hc, fun i hi => ?_⟩
  · have hk' : k < (flats m B).length := by omega
    rw [and_nat]
    refine gIte (fun q => ?_) fun q => gSome ⟨hk', by simp, c, rfl, hc, fun i hi => ?_⟩
    · have hin : Inc s ((flats m B).getD k 0) := (sub_iff_and _ _).1 (by omega)
      rw [and_nat]
      refine gSome ⟨hk', by simp, _, rfl, and_lt hc, fun i hi => ?_⟩
      rw [Nat.testBit_and, Bool.and_eq_true, hall i hi]
      constructor
      · rintro ⟨q1, q2⟩ j hj hin'
        rcases Nat.lt_succ_iff_lt_or_eq.1 hj with e | rfl
        · exact q1 j e hin'
        · exact q2
      · intro q1
        exact ⟨fun j hj => q1 j (by omega), q1 k (Nat.lt_succ_self k) hin⟩
    · have hin : ¬ Inc s ((flats m B).getD k 0) := fun e => q (by rw [(sub_iff_and _ _).2 e])
      rw [hall i hi]
      constructor
      · intro q1 j hj hin'
        rcases Nat.lt_succ_iff_lt_or_eq.1 hj with e | rfl
        · exact q1 j e hin'
        · exact absurd hin' hin
      · intro q1 j hj
        exact q1 j (by omega)
  · obtain ⟨c', hc'⟩ := h.cl_exists hs
    have hkl : k = (flats m B).length := by omega
    subst hkl
    rw [hall i hi, ← hc'.2 i hi, h.cl_iff hs hc' hi]
    constructor
    · intro q F f1 f2 f3
      obtain ⟨j, hj, rfl⟩ := mem_getD.1 (mem_flats.2 ⟨f1, f2⟩)
      exact q j hj f3
    · intro q j hj hin
      obtain ⟨f1, f2⟩ := mem_flats.1 (mem_getD.2 ⟨j, hj, rfl⟩)
      exact q _ f1 f2 hin
theorem OfFlats_ok : axioms_OfFlats m (cs (flats m B)) = some ((m : Int), cs B, 0) := by
  have h8 := h.m8
  have h256 := pow_le8 h8
  have hf : Fam m (flats m B) := filter_fam h8 _
  unfold axioms_OfFlats
  rw [sets_Family_ok hf, Option.bind_some, if_neg (by simp), made_ok h (fun s hs => ?_) (Flats_ok h (by have := h.len; omega))]
  · rfl
  · refine Gets.eq ?_
    unfold axioms_OfFlats_2
    refine gBind (R := fun z => match z with | .inl _ => ∀ i, i < m → s.testBit i = true → rk m B s ≠ rk m B (dif s (2 ^ i)) | .inr r => r = false ∧ ¬ ∀ i, i < m → s.testBit i = true → rk m B s ≠ rk m B (dif s (2 ^ i)))
      (gFor m (fun k v => v = (k : Int) ∧ ∀ i, i < k → s.testBit i = true → rk m B s ≠ rk m B (dif s (2 ^ i))) (Nat.zero_le _) ⟨rfl, none_all⟩ ?_) ?_
    · rintro k _ hk ⟨rfl, hb⟩
      refine gIte (fun h1 => gChk (by omega) ?_) fun h1 => gSome fun i hi => hb i (by omega)
      have hk' : k < m := by omega
      rw [bit_nat]
      cases hq : s.testBit k with
      | false =>
        refine gIte (fun q => absurd q (by simp)) fun _ => gSome ⟨hk', by simp, step_all hb fun q => ?_⟩
        rw [hq] at q; cases q
      | true =>
        refine gIte (fun _ => ?_) fun q => absurd (by simp) q
        simp only [toNat_nat, shl_nat', dif_nat]
        refine gBind (hull_ok h (dif_lt hs)) ?_
        rintro _ ⟨c, rfl, hc⟩
        have hbit := bit_nat c k
        rw [toNat_nat, shl_nat'] at hbit
        refine gChk (by omega) ?_
        rw [hbit]
        have hcl := hc.2 k hk'
        rw [dif_or hq, testBit_dif, testBit_pow] at hcl
        cases hqc : c.testBit k with
        | true =>
          refine gIte (fun _ => gSome ⟨rfl, fun hall => ?_⟩) fun q => absurd (by simp) q
          rcases hcl.1 hqc with e | e
          · simp at e
          · exact hall k hk' hq e
        | false =>
          refine gIte (fun q => absurd q (by simp)) fun _ => gSome ⟨hk', by simp, step_all hb fun _ e => ?_⟩
          have := hcl.2 (.inr e)
          rw [hqc] at this; cases this
    · have e := h.ind_span hs
      rintro (u | rr) hz
      · exact gSome (decide_eq_true (e.2 fun i hi => hz i (bit_lt hs hi) hi)).symm
      · rw [hz.1]
        exact gSome (decide_eq_false fun q => hz.2 fun i _ hi => (e.1 q) i hi).symm
theorem OfHyperplanes_ok : axioms_OfHyperplanes m (cs (hypers m B)) = some ((m : Int), cs B, 0) := by
  refine Gets.eq ?_
  have h8 := h.m8
  have h256 := pow_le8 h8
  have hpos : 0 < 2 ^ m := Nat.pow_pos (by omega)
  have hf : Fam m (hypers m B) := filter_fam h8 _
  have hlen := hf.len
  unfold axioms_OfHyperplanes
  refine gBindE (sets_Family_ok hf) (gIte (fun q => absurd rfl q) fun _ => ?_)
  simp only [toNat_nat, shl_nat']
  refine gChk (by omega) (gChk (by omega) ?_)
  refine gBind (R := fun o => o = cs ((List.range (2 ^ m)).filter fun s => decide (rk m B s = rk m B (2 ^ m - 1)))) (gFor (2 ^ m) (fun k (x : List Int × Int) => x.2 = (k : Int) ∧ x.1 = cs ((List.range k).filter fun s => decide (rk m B s = rk m B (2 ^ m - 1)))) (Nat.zero_le _) ⟨rfl, rfl⟩ ?_) ?_
  · rintro k ⟨_, _⟩ hk ⟨rfl, rfl⟩
    refine gIte (fun h1 => ?_) fun h1 => gSome (by have : k = 2 ^ m := by omega
                                                   subst this; rfl)
    have hk' : k < 2 ^ m := by omega
    have hle := List.length_filter_le (fun s => decide (rk m B s = rk m B (2 ^ m - 1))) (List.range k)
    rw [List.length_range] at hle
    refine gBind (ContainsFunc_spec (hypers m B) _ (fun H => decide (Inc k H)) (by omega) fun H hH => ?_) fun r hr => ?_
    · unfold axioms_OfHyperplanes_1
      rw [and_nat]
      congr 1
      rw [Bool.eq_iff_iff, decide_eq_true_eq, decide_eq_true_eq, ← sub_iff_and]; omega
    · have e : r = true ↔ ¬ rk m B k = rk m B (2 ^ m - 1) := by
        rw [hr, h.span_iff hk', Classical.not_not]
        constructor
        · rintro ⟨H, h3, h4⟩
          obtain ⟨h5, h6⟩ := mem_hypers.1 h3
          exact ⟨H, h5, h6, of_decide_eq_true h4⟩
        · rintro ⟨H, h3, h4, h5⟩
          exact ⟨H, mem_hypers.2 ⟨h3, h4⟩, decide_eq_true h5⟩
      refine gIte (fun q => gChk (by simp; omega) (gSome ⟨hk', by simp, ?_⟩)) fun q => gSome ⟨hk', by simp, ?_⟩
      · show _ = cs _
        rw [List.range_succ, List.filter_append, cs_app]
        have : decide (rk m B k = rk m B (2 ^ m - 1)) = true := by
          rw [e] at q; simpa using q
        rw [List.filter_cons, if_pos this]; rfl
      · show _ = cs _
        rw [List.range_succ, List.filter_append]
        have : ¬ decide (rk m B k = rk m B (2 ^ m - 1)) = true := by
          rw [e] at q; simpa using q
        rw [List.filter_cons, if_neg this]; simp
  · rintro o rfl
    have hfs : Fam m ((List.range (2 ^ m)).filter fun s => decide (rk m B s = rk m B (2 ^ m - 1))) := filter_fam h8 _
    have eB := sets_Least_ok hfs
    rw [show (((List.range (2 ^ m)).filter fun s => decide (rk m B s = rk m B (2 ^ m - 1))).filter _) = B from ?_] at eB
    rotate_left
    · rw [List.filter_filter]
      refine (filter_fam h8 _).ext h.toFam fun s => ?_
      simp only [List.mem_filter, List.mem_range, Bool.and_eq_true, decide_eq_true_eq]
      constructor
      · rintro ⟨s1, s2, s3⟩
        exact (h.basis_iff s1).2 ⟨s3, fun t t1 t2 t3 => s2 t ⟨t1, t2⟩ t3⟩
      · intro hs
        have hsm := h.lt s hs
        obtain ⟨s1, s2⟩ := (h.basis_iff hsm).1 hs
        exact ⟨hsm, fun t t1 t2 => s2 t t1.1 t1.2 t2, s1⟩
    refine gBindE eB ?_
    exact gBindE h.check (gIte (fun q => absurd rfl q) fun _ => gBindE (Hyperplanes_ok h (by have := h.len; omega)) (gBindE (slices_Equal_self _) (gIte (fun q => absurd rfl q) fun _ => gSome rfl)))
end

theorem circs_two : circs 4 twoB = [7, 11, 13, 14] := by decide +kernel
theorem SameMatroid_self (n : Int) (l : List Int) : rotalaw_SameMatroid n l n l = some true := by
  unfold rotalaw_SameMatroid
  simp [Same_self]

theorem rotakeep_AxiomsBack_law (n : Int) (l : List Int) (hl : l.length ≤ 9223372036854775807) : rotakeep_AxiomsBack n l = some true := by
  refine Gets.eq ?_
  unfold rotakeep_AxiomsBack
  refine gBindE two_eq (gBindE (Circuits_ok mat_two) (gIte (fun _ => ?_) fun q => absurd (by simp) q))
  rw [circs_two]
  refine gBindE (a := true) (Same_self [7, 11, 13, 14]) (gIte (fun q => absurd rfl q) fun _ => ?_)
  obtain ⟨c, hc, hs⟩ := axioms_Check_spec n l hl
  rcases hs with ⟨rfl, m, B, rfl, rfl, hM⟩ | ⟨h0, _⟩
  · have hB : B.length ≤ 9223372036854775807 := by simpa using hl
    refine gBindE hc (gIte (fun q => absurd rfl q) fun _ => ?_)
    refine gBindE (Independents_ok hM) (gBindE (Circuits_ok hM) (gBindE (axioms_Ranks_ok hM) (gBindE (Flats_ok hM hB) (gBindE (Hyperplanes_ok hM hB) (gIte (fun q => absurd q (by simp)) fun _ => ?_)))))
    refine gBindE (OfIndependents_ok hM) (gBindE (OfCircuits_ok hM) (gBindE (OfRanks_ok hM) (gBindE (OfFlats_ok hM) (gBindE (OfHyperplanes_ok hM) ?_))))
    simp only [SameMatroid_self, if_true, and_self, Option.bind_some]
    exact gSome (by simp)
  · exact gBindE hc (gIte (fun _ => gSome rfl) fun q => absurd h0 q)
end Go.SH
