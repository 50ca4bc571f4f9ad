/-
  The law JoinPacks: as many bases can be packed as the weakest set lets. Conditions: none.
-/
import Derived.Test.YtkjfccdfmjnkbaaLPl
set_option linter.unusedSimpArgs false
set_option linter.unusedVariables false
namespace Go.SH
open Go Go.AX

theorem nodup_len : ∀ {P Q : List Nat}, P.Nodup → (∀ a, a ∈ P → a ∈ Q) → P.length ≤ Q.length
  | [], _, _, _ => Nat.zero_le _
  | a :: P, Q, hn, h => by
    obtain ⟨h1, h2⟩ := List.nodup_cons.1 hn
    have ha := h a (List.mem_cons_self ..)
    have := nodup_len (P := P) (Q := Q.erase a) h2 fun b hb => (List.mem_erase_of_ne fun e => h1 (by rw [← e]; exact hb)).2 (h b (List.mem_cons_of_mem _ hb))
    rw [List.length_erase_of_mem ha] at this
    have := List.length_pos_of_mem ha
    rw [List.length_cons]; omega
theorem Apart.facts {r : Nat → Nat} : ∀ {P : List Nat} {A : Nat}, Apart r A P → (∀ I, I ∈ P → I ≠ 0) → P.Nodup ∧ (∀ I, I ∈ P → Inc I A ∧ r I = cnt 8 I) ∧ ∀ I, I ∈ P → ∀ J, J ∈ P → I ≠ J → I &&& J = 0
  | [], A, _, _ => ⟨List.nodup_nil, fun I h => (by cases h), fun I h => (by cases h)⟩
  | I :: P, A, ⟨h1, h2, h3⟩, hne => by
    obtain ⟨q1, q2, q3⟩ := Apart.facts h3 fun J hJ => hne J (List.mem_cons_of_mem _ hJ)
    have hd : ∀ J, J ∈ P → I &&& J = 0 := fun J hJ => by
      rw [Nat.and_comm]
      refine (disj_iff J I).2 fun i hi => ?_
      have := (q2 J hJ).1 i hi
      rw [testBit_dif] at this
      cases p : I.testBit i with
      | false => rfl
      | true => rw [p] at this; simp at this
    refine ⟨List.nodup_cons.2 ⟨fun hI => ?_, q1⟩, fun J hJ => ?_, fun J hJ K hK hJK => ?_⟩
    · have := hd I hI
      rw [Nat.and_self] at this
      exact hne I (List.mem_cons_self ..) this
    · rcases List.mem_cons.1 hJ with rfl | hJ
      · exact ⟨h1, h2⟩
      · exact ⟨(q2 J hJ).1.trans (inc_dif _ _), (q2 J hJ).2⟩
    · rcases List.mem_cons.1 hJ with e1 | hJ'
      · rcases List.mem_cons.1 hK with e2 | hK'
        · exact absurd (e1.trans e2.symm) hJK
        · rw [e1]; exact hd K hK'
      · rcases List.mem_cons.1 hK with e2 | hK'
        · rw [e2, Nat.and_comm]; exact hd J hJ'
        · exact q3 J hJ' K hK' hJK
section
variable {m : Nat} {B : List Nat} (h : Mat m B)
include h
theorem Mat.pack_up {w : Nat} {P : List Nat} (hP : ∀ b, b ∈ P → b ∈ B) : ∀ {used : Nat}, Disj used P → cnt m (used &&& cpl m w) + P.length * (rk m B (2 ^ m - 1) - rk m B w) ≤ cnt m (cpl m w) := by
  have full : ∀ b, b ∈ B → cnt m b = rk m B (2 ^ m - 1) := fun b hb => by
    refine Nat.le_antisymm ?_ (rk_le.2 fun b' hb' => ?_)
    · have := le_rk (m := m) (s := 2 ^ m - 1) hb
      have e : (2 ^ m - 1) &&& b = b := Nat.eq_of_testBit_eq fun i => by
        rw [Nat.testBit_and, full_bit]
        cases c : b.testBit i with
        | false => simp
        | true => simp [bit_lt (h.lt b hb) c]
      rw [e] at this; exact this
    · have := cnt_le_of_inc (m := m) (inc_and_r (2 ^ m - 1) b')
      have := h.eqc b' hb' b hb
      omega
  induction P with
  | nil => intro used _; have := cnt_le_of_inc (m := m) (inc_and_r used (cpl m w)); simp; omega
  | cons b P ih =>
    intro used hD
    obtain ⟨d1, d2⟩ := Disj_cons.1 hD
    have hb := hP b (List.mem_cons_self ..)
    have := ih (fun c hc => hP c (List.mem_cons_of_mem _ hc)) d2
    have e1 : (used ||| b) &&& cpl m w = (used &&& cpl m w) ||| (b &&& cpl m w) := Nat.eq_of_testBit_eq fun i => by
      simp only [Nat.testBit_and, Nat.testBit_or]
      cases used.testBit i <;> cases b.testBit i <;> cases (cpl m w).testBit i <;> rfl
    have e2 : (used &&& cpl m w) &&& (b &&& cpl m w) = 0 := (disj_iff _ _).2 fun i hi => by
      rw [Nat.testBit_and, Bool.and_eq_true] at hi
      rw [Nat.testBit_and]
      cases p : b.testBit i with
      | false => rfl
      | true => rw [(disj_iff b used).1 d1 i p] at hi; simp at hi
    have c1 := cnt_or_and m (used &&& cpl m w) (b &&& cpl m w)
    rw [e2, cnt_zero, ← e1] at c1
    have c2 := cnt_split m b w
    have c3 : b &&& cpl m w = dif b w := and_cpl (h.lt b hb)
    have c4 := le_rk (m := m) (s := w) hb
    rw [Nat.and_comm] at c4
    have c5 := full b hb
    rw [c3] at c1
    rw [List.length_cons, Nat.add_mul, Nat.one_mul]
    omega
theorem Mat.pack_many (hR : 0 < rk m B (2 ^ m - 1)) {K : Nat} (hK : ∀ s, s < 2 ^ m → rk m B s < rk m B (2 ^ m - 1) → K ≤ cnt m (cpl m s) / (rk m B (2 ^ m - 1) - rk m B s)) : ∃ P', P'.Sublist B ∧ Disj 0 P' ∧ K ≤ P'.length := by
  have h8 := h.m8
  have hp8 : 2 ^ m ≤ 2 ^ 8 := Nat.pow_le_pow_right (by omega) h8
  have hfl := full_lt m
  obtain ⟨P, p1, p2, p3⟩ := pack_ex h.rkF (G := 2 ^ m - 1) (by omega) (k := K) fun S hS => by
    have hSl := hS.lt hfl
    have e1 : cnt 8 (dif (2 ^ m - 1) S) = cnt m (cpl m S) := cnt_of_lt (cpl_lt m S) h8
    rw [e1]
    have hle := h.rk_mono hS
    rcases Nat.lt_or_ge (rk m B S) (rk m B (2 ^ m - 1)) with c | c
    · have h1 := hK S hSl c
      have h2 := Nat.mul_le_of_le_div _ _ _ h1
      have h3 : K * rk m B (2 ^ m - 1) = K * rk m B S + K * (rk m B (2 ^ m - 1) - rk m B S) := by
        rw [← Nat.mul_add]; congr 1; omega
      omega
    · have : rk m B S = rk m B (2 ^ m - 1) := by omega
      rw [this]; omega
  obtain ⟨q1, q2, q3⟩ := p2.facts fun I hI e => by
    have := p3 I hI
    rw [e, cnt_zero] at this; omega
  have mem : ∀ I, I ∈ P → I ∈ B := fun I hI => by
    obtain ⟨b, hb⟩ := h.exists_basis
    obtain ⟨i1, i2⟩ := q2 I hI
    have hIl := i1.lt hfl
    have e1 : cnt 8 I = cnt m I := cnt_of_lt hIl h8
    refine h.ind_big ((h.ind_iff hIl).2 (by omega)) hb ?_
    have h1 := p3 I hI
    have h2 := h.rk_size b
    have h3 : cnt m b ≤ rk m B b := h.ind_le ⟨b, hb, Inc.refl b⟩ (Inc.refl b)
    have h4 := h.rk_mono (Weak_ok.full_inc (h.lt b hb))
    omega
  refine ⟨B.filter fun b => decide (b ∈ P), List.filter_sublist, ⟨fun b _ => by simp, ?_⟩, ?_⟩
  · have hs : B.Pairwise fun a b => a < b := by
      rw [List.pairwise_iff_getElem]
      intro i j hi hj hij
      have := h.rise i j hij hj
      rw [List.getD_eq_getElem?_getD, List.getD_eq_getElem?_getD, List.getElem?_eq_getElem hi, List.getElem?_eq_getElem hj] at this
      exact this
    have hf := hs.filter fun b => decide (b ∈ P)
    refine List.Pairwise.imp_of_mem (fun {a b} ha hb hab => ?_) hf
    have ha' := (List.mem_filter.1 ha).2
    have hb' := (List.mem_filter.1 hb).2
    simp only [decide_eq_true_eq] at ha' hb'
    exact q3 a ha' b hb' (by omega)
  · rw [← p1]
    refine nodup_len q1 fun a ha => List.mem_filter.2 ⟨mem a ha, by simpa using ha⟩
end
theorem SamePk (l : List Int) : rotalaw_Same_int l l = some true := by
  refine Gets.eq ?_
  unfold rotalaw_Same_int
  refine gIte (fun q => absurd rfl q) fun _ => gBind (R := fun z => match z with | .inl _ => True | .inr r => False) (gFor l.length (fun k v => v = (k : Int)) (Nat.zero_le _) rfl ?_) ?_
  · rintro k _ hk rfl
    exact gIte (fun h1 => gChk (by omega) (gIte (fun q => absurd rfl q) fun _ => gSome ⟨by omega, by simp⟩)) fun _ => gSome trivial
  · rintro (u | rr) hz
    · exact gSome rfl
    · exact hz.elim
theorem Disj_app {P Q : List Nat} {u : Nat} (h : Disj u (P ++ Q)) : Disj u P := ⟨fun b hb => h.1 b (List.mem_append_left _ hb), (List.pairwise_append.1 h.2).1⟩

theorem rotakeep_JoinPacks_law (n : Int) (l : List Int) (hl : l.length ≤ 9223372036854775807) : rotakeep_JoinPacks n l = some true := by
  refine Gets.eq ?_
  unfold rotakeep_JoinPacks
  refine gBindE two_eq (gBindE pack_two (gIte (fun _ => ?_) fun q => absurd (by simp) q))
  refine gBindE (SamePk _) (gIte (fun q => absurd rfl q) fun _ => ?_)
  obtain ⟨c, hc, hs⟩ := axioms_Check_spec n l hl
  rcases hs with ⟨rfl, m, B, rfl, rfl, h⟩ | ⟨h0, _⟩
  rotate_left
  · have e1 : join_Pack n l = some ([], c) := by unfold join_Pack; rw [hc, Option.bind_some, if_pos h0]
    have e2 : join_Weak n l = some (0, c) := by unfold join_Weak; rw [hc, Option.bind_some, if_pos h0]
    exact gBindE e1 (gBindE e2 (gIte (fun _ => gSome (by simp)) fun q => absurd h0 q))
  have h8 := h.m8
  have h256 := pow_le8 h8
  have hlen := h.len
  have hpos : 0 < B.length := List.length_pos_iff.2 h.ne
  have hp2 : 0 < 2 ^ m := Nat.pow_pos (by omega)
  have hfl := full_lt m
  have hg : B.getD 0 0 ∈ B := mem_getD.2 ⟨0, hpos, rfl⟩
  have hgl := h.lt _ hg
  have hR1 : rk m B (B.getD 0 0) = cnt m (B.getD 0 0) := (h.ind_iff hgl).1 ⟨_, hg, Inc.refl _⟩
  have hR2 := h.rk_mono (Weak_ok.full_inc hgl)
  have hfull : ∀ b, b ∈ B → cnt m b = rk m B (2 ^ m - 1) := fun b hb => by
    have h1 := (h.ind_iff (h.lt b hb)).1 ⟨b, hb, Inc.refl b⟩
    have h2 := h.rk_mono (Weak_ok.full_inc (h.lt b hb))
    have h3 : rk m B (2 ^ m - 1) ≤ cnt m b := rk_le.2 fun b' hb' => by
      have := cnt_le_of_inc (m := m) (inc_and_r (2 ^ m - 1) b')
      have := h.eqc b' hb' b hb
      omega
    omega
  rcases Nat.eq_zero_or_pos (rk m B (2 ^ m - 1)) with c0 | c0
  · have hz : B.getD 0 0 = 0 := by
      rcases Classical.em (B.getD 0 0 = 0) with q | q
      · exact q
      · obtain ⟨i, hi⟩ := exists_bit q
        have := cnt_pos hgl hi
        omega
    have e1 : join_Pack m (cs B) = some ([], 5) := by
      unfold join_Pack
      rw [h.check, Option.bind_some, if_neg (by simp), chk_pos (by rw [cs_len]; exact hpos), cs_get, hz, if_pos (by simp)]
    have e2 : join_Weak m (cs B) = some (0, 5) := by
      unfold join_Weak
      have er : join_ranks m (cs B) = some (cs (rkL m B)) := by unfold join_ranks; rw [axioms_Ranks_ok h]; rfl
      have ee : (((2 ^ m : Nat) : Int) - 1) = ((2 ^ m - 1 : Nat) : Int) := by omega
      rw [h.check, Option.bind_some, if_neg (by simp), er, Option.bind_some]
      simp only [cs_len, rkL_len, ee, toNat_nat, cs_get, rkL_get m B hfl, c0]
      rw [chk_pos (by omega), chk_pos (by omega), if_pos (by simp)]
    exact gBindE e1 (gBindE e2 (gIte (fun _ => gSome (by simp)) fun q => absurd (by simp) q))
  have bne : ∀ b, b ∈ B → b < 256 ∧ b ≠ 0 := fun b hb => ⟨by have := h.lt b hb; omega, fun e => by
    have := hfull b hb
    rw [e, cnt_zero] at this; omega⟩
  have hPk : Gets (join_packed 12 (cs B) ((0 : Nat) : Int) ((0 : Nat) : Int)) _ := packed_spec hlen bne 12 0 0 (Nat.zero_le _) (by omega) (by rw [cnt_zero]; omega)
  obtain ⟨_, ePk, P, rfl, P1, P2, P3⟩ := hPk
  have e1 : join_Pack m (cs B) = some (cs P, 0) := by
    unfold join_Pack
    rw [h.check, Option.bind_some, if_neg (by simp), chk_pos (by rw [cs_len]; exact hpos), cs_get, if_neg (by have := (bne _ hg).2; omega)]
    have : join_packed 12 (cs B) 0 0 = some (cs P) := ePk
    rw [this]; rfl
  obtain ⟨w, e2, w1, w2, w3⟩ := Weak_ok h c0
  refine gBindE e1 (gBindE e2 (gIte (fun q => absurd rfl q) fun _ => ?_))
  refine gBindE (axioms_Ranks_ok h) (gIte (fun q => absurd q (by simp)) fun _ => ?_)
  simp only []
  have PB : ∀ b, b ∈ P → b ∈ B := fun b hb => by
    have := P1.subset hb
    exact List.mem_of_mem_drop this
  have hPl := P1.length_le
  rw [List.length_drop] at hPl
  refine gBind (R := fun z => match z with | .inl _ => True | .inr r => False) (gFor P.length (fun k (x : Int × Int) => x.2 = (k : Int) ∧ ∃ u : Nat, x.1 = (u : Int) ∧ Disj u (P.drop k)) (Nat.zero_le _) ⟨rfl, 0, rfl, P2⟩ ?_) ?_
  · rintro k ⟨_, _⟩ hk ⟨rfl, u, rfl, hD⟩
    simp only [cs_len, cs_get, toNat_nat, and_nat, or_nat]
    refine gIte (fun h1 => ?_) fun _ => gSome trivial
    have hk' : k < P.length := by omega
    have hm := PB _ (mem_getD.2 ⟨k, hk', rfl⟩)
    rw [drop_get hk'] at hD
    obtain ⟨d1, d2⟩ := Disj_cons.1 hD
    have d1' : u &&& P.getD k 0 = 0 := by rw [Nat.and_comm]; exact d1
    refine gChk (by omega) ?_
    rw [d1']
    rw [if_pos (by simp), slices_Contains_spec _ _ (by rw [cs_len]; omega), Option.bind_some]
    have hmc : ((P.getD k 0 : Nat) : Int) ∈ cs B := (cs_mem _ _).2 hm
    refine gIte (fun q => (q.elim (fun z => z rfl) fun z => z (decide_eq_true hmc)).elim) fun _ => gSome ⟨hk', by simp, u ||| P.getD k 0, rfl, d2⟩
  · rintro (uu | rr) hz
    rotate_left
    · exact hz.elim
    refine gBindE (rotaref_All_nat h8) ?_
    simp only [cs_len, rkL_len, toNat_nat, cs_get, rkL_get m B w1, rkL_get m B hfl]
    refine gChk (by omega) ?_
    rw [if_pos (by omega)]
    refine gBindE (rotaref_Size_nat w) ?_
    rw [size_of_lt w1 h8]
    have cw := cpl_cnt (m := m) (s := w)
    have ea : ((m : Int) - (cnt m w : Int)) = ((cnt m (cpl m w) : Nat) : Int) := by omega
    have eb : ((rk m B (2 ^ m - 1) : Int) - (rk m B w : Int)) = ((rk m B (2 ^ m - 1) - rk m B w : Nat) : Int) := by omega
    rw [ea, eb, tdiv_nat]
    have bR : rk m B (2 ^ m - 1) ≤ m := Nat.le_trans (h.rk_size _) (cnt_le _ _)
    have key : P.length = cnt m (cpl m w) / (rk m B (2 ^ m - 1) - rk m B w) := by
      refine Nat.le_antisymm ?_ ?_
      · have := h.pack_up (w := w) PB P2
        exact (Nat.le_div_iff_mul_le (by omega)).2 (by omega)
      · obtain ⟨P', s1, s2, s3⟩ := h.pack_many c0 w3
        have := P3 P' (by simpa using s1) s2
        omega
    have hq : cnt m (cpl m w) / (rk m B (2 ^ m - 1) - rk m B w) ≤ m := Nat.le_trans (Nat.div_le_self _ _) (cnt_le _ _)
    rw [← key] at hq ⊢
    refine gChk ⟨fun _ => by omega, fun _ => by omega, fun _ => by omega, fun _ => by omega, fun _ => by omega, fun _ => by omega⟩ (gSome ?_)
    simp
    omega
end Go.SH
