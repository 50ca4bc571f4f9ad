/-
  What convex.joined, Tree, First, Ordered give. Conditions: none.
-/
import Derived.Test.YtobpcecpfojpmaaDoorLTr
set_option linter.unusedSimpArgs false
set_option linter.unusedVariables false
namespace Go.SH
open Go Go.AX

theorem pair_in {a b s : Nat} : (2 ^ a ||| 2 ^ b) &&& s = 2 ^ a ||| 2 ^ b ↔ s.testBit a = true ∧ s.testBit b = true := by
  rw [sub_iff_and]
  constructor
  · intro h
    exact ⟨h a (by rw [Nat.testBit_or, testBit_pow]; simp), h b (by rw [Nat.testBit_or, testBit_pow, testBit_pow]; simp)⟩
  · rintro ⟨h1, h2⟩
    exact inc_or (inc_pow h1) (inc_pow h2)
theorem pair_meet {a b t : Nat} : (2 ^ a ||| 2 ^ b) &&& t ≠ 0 ↔ t.testBit a = true ∨ t.testBit b = true := by
  rw [Ne, disj_iff]
  constructor
  · intro h
    rcases Classical.em (t.testBit a = true) with c | c
    · exact .inl c
    · rcases Classical.em (t.testBit b = true) with d | d
      · exact .inr d
      · refine absurd (fun i hi => ?_) h
        rw [Nat.testBit_or, testBit_pow, testBit_pow, Bool.or_eq_true, decide_eq_true_eq, decide_eq_true_eq] at hi
        rcases hi with rfl | rfl
        · exact bool_ne c
        · exact bool_ne d
  · rintro (h | h) q
    · have := q a (by rw [Nat.testBit_or, testBit_pow]; simp)
      rw [h] at this; cases this
    · have := q b (by rw [Nat.testBit_or, testBit_pow, testBit_pow]; simp)
      rw [h] at this; cases this
/-- No edge within s leaves T. -/
def Cl (E : List (Int × Int)) (s T : Nat) : Prop := ∀ k, k < E.length → s.testBit (eA E k) = true → s.testBit (eB E k) = true → (T.testBit (eA E k) = true ↔ T.testBit (eB E k) = true)
section
variable {N : Nat} {E : List (Int × Int)} {s i : Nat}
structure Grow (E : List (Int × Int)) (s i t : Nat) : Prop where
  sub : Inc t s
  has : t.testBit i = true
  min : ∀ T, T.testBit i = true → Cl E s T → Inc t T
theorem Grow.step {t k : Nat} (h : Grow E s i t) (hk : k < E.length) (h1 : s.testBit (eA E k) = true) (h2 : s.testBit (eB E k) = true) (h3 : t.testBit (eA E k) = true ∨ t.testBit (eB E k) = true) : Grow E s i (t ||| (2 ^ eA E k ||| 2 ^ eB E k)) := by
  refine ⟨inc_or h.sub (inc_or (inc_pow h1) (inc_pow h2)), by rw [Nat.testBit_or, h.has]; rfl, fun T hT hc => ?_⟩
  have hm := h.min T hT hc
  have := hc k hk h1 h2
  refine inc_or hm ?_
  rcases h3 with h3 | h3
  · exact inc_or (inc_pow (hm _ h3)) (inc_pow (this.1 (hm _ h3)))
  · exact inc_or (inc_pow (this.2 (hm _ h3))) (inc_pow (hm _ h3))
theorem Grow.conn {t : Nat} (h : Grow E s i t) (hi : s.testBit i = true) (hc : Cl E s t) : t = s ↔ Conn E s := by
  constructor
  · intro e T hT h0 hcl
    rw [e] at h
    rcases Classical.em (T.testBit i = true) with c | c
    · exact hT.antisymm (h.min T c hcl)
    · exfalso
      obtain ⟨j, hj⟩ := exists_bit h0
      have := h.min (dif s T) (by rw [testBit_dif, hi, bool_ne c]; rfl) (fun k hk h1 h2 => by
        have := hcl k hk h1 h2
        rw [testBit_dif, testBit_dif, h1, h2]
        cases q1 : T.testBit (eA E k) <;> cases q2 : T.testBit (eB E k) <;> simp_all) j (hT j hj)
      rw [testBit_dif, hj] at this
      simp at this
  · intro hC
    exact hC t h.sub (fun e => by have := h.has; rw [e] at this; simp at this) hc
theorem joined_spec (h : GraT N E) {s : Nat} (hs : s < 2 ^ N) : Gets (convex_joined N E (s : Int)) (fun b => b = true ↔ Conn E s) := by
  have h7 := h.n7
  have h8 := h.e8
  have hp7 : 2 ^ N ≤ 2 ^ 7 := Nat.pow_le_pow_right (by omega) h7
  unfold convex_joined
  refine gIte (fun q => gSome ⟨fun _ => ?_, fun _ => rfl⟩) fun q => ?_
  · have : s = 0 := by omega
    subst this; exact conn_zero
  have hlow := low_spec (t := s) (by omega) (by omega)
  generalize lo1 s = i at hlow
  have hi := bit_lt hs hlow.bit
  simp only [hlow.neg]
  refine gChk (by omega) (gBind (R := fun v => ∃ t : Nat, v = (t : Int) ∧ Grow E s i t ∧ Cl E s t) (gFor N (fun k (x : Int × Int) => x.2 = (k : Int) ∧ ∃ t : Nat, x.1 = (t : Int) ∧ Grow E s i t ∧ (Cl E s t ∨ k + 1 ≤ cnt N t)) (Nat.zero_le _) ⟨rfl, 2 ^ i, rfl, ⟨inc_pow hlow.bit, by rw [testBit_pow]; simp, fun T hT _ => inc_pow hT⟩, .inr ?_⟩ ?_) ?_)
  · have := cnt_add (m := N) (s := 0) hi (by simp)
    rw [Nat.zero_or, cnt_zero] at this; omega
  · rintro k ⟨_, _⟩ hk ⟨rfl, t, rfl, g, hc⟩
    dsimp only
    refine gIte (fun h1 => ?_) fun h1 => ?_
    rotate_left
    · refine gSome ⟨t, rfl, g, ?_⟩
      rcases hc with hc | hc
      · exact hc
      · have := cnt_le N t; omega
    refine gBind (R := fun v => ∃ u : Nat, v = (u : Int) ∧ Grow E s i u ∧ Inc t u ∧ (∀ k, k < E.length → s.testBit (eA E k) = true → s.testBit (eB E k) = true → (t.testBit (eA E k) = true ∨ t.testBit (eB E k) = true) → u.testBit (eA E k) = true ∧ u.testBit (eB E k) = true) ∧ (Cl E s t → u = t)) (gFor E.length (fun j (x : Int × Int) => x.2 = (j : Int) ∧ ∃ u : Nat, x.1 = (u : Int) ∧ Grow E s i u ∧ Inc t u ∧ (∀ k, k < j → s.testBit (eA E k) = true → s.testBit (eB E k) = true → (t.testBit (eA E k) = true ∨ t.testBit (eB E k) = true) → u.testBit (eA E k) = true ∧ u.testBit (eB E k) = true) ∧ (Cl E s t → u = t)) (Nat.zero_le _) ⟨rfl, t, rfl, g, Inc.refl t, none_all, fun _ => rfl⟩ ?_) ?_
    · rintro j ⟨_, _⟩ hj ⟨rfl, u, rfl, u1, u2, u3, u4⟩
      dsimp only
      refine gIte (fun h2 => ?_) fun h2 => ?_
      rotate_left
      · have e : j = E.length := by omega
        subst e
        exact gSome ⟨u, rfl, u1, u2, u3, u4⟩
      have hj' : j < E.length := by omega
      have he := h.ends j hj'
      simp only [toNat_nat, shl_nat', or_nat, and_nat]
      have ea : (E.getD j (0, 0)).1.toNat = eA E j := rfl
      have eb : (E.getD j (0, 0)).2.toNat = eB E j := rfl
      rw [ea, eb]
      refine gChk (by omega) (gChk (by omega) ?_)
      have ec : ((((2 ^ eA E j ||| 2 ^ eB E j) &&& s : Nat) : Int) = ((2 ^ eA E j ||| 2 ^ eB E j : Nat) : Int) ∧ (((2 ^ eA E j ||| 2 ^ eB E j) &&& u : Nat) : Int) ≠ 0) ↔ ((s.testBit (eA E j) = true ∧ s.testBit (eB E j) = true) ∧ (u.testBit (eA E j) = true ∨ u.testBit (eB E j) = true)) := by
        rw [← pair_in, ← pair_meet]
        exact and_congr (by omega) (by omega)
      refine gIte (fun h3 => ?_) fun h3 => gSome ⟨hj', by simp, u, rfl, u1, u2, ?_, u4⟩
      · obtain ⟨⟨s1, s2⟩, s3⟩ := ec.1 h3
        refine gSome ⟨hj', by simp, u ||| (2 ^ eA E j ||| 2 ^ eB E j), rfl, u1.step hj' s1 s2 s3, u2.trans (inc_or_l _ _), step_all (fun k hk a b c => ?_) (fun a b c => ?_), fun hcl => ?_⟩
        · obtain ⟨d1, d2⟩ := u3 k hk a b c
          exact ⟨by rw [Nat.testBit_or, d1]; rfl, by rw [Nat.testBit_or, d2]; rfl⟩
        · exact ⟨by rw [Nat.testBit_or, Nat.testBit_or, testBit_pow]; simp, by rw [Nat.testBit_or, Nat.testBit_or, testBit_pow, testBit_pow]; simp⟩
        · have e := u4 hcl
          subst e
          have := hcl j hj' s1 s2
          rw [Nat.or_comm]
          refine (or_eq_iff _ _).2 ?_
          rcases s3 with s3 | s3
          · exact inc_or (inc_pow s3) (inc_pow (this.1 s3))
          · exact inc_or (inc_pow (this.2 s3)) (inc_pow s3)
      · exact step_all u3 fun a b c => absurd (ec.2 ⟨⟨a, b⟩, c.imp (u2 _) (u2 _)⟩) h3
    · rintro _ ⟨u, rfl, u1, u2, u3, u4⟩
      refine gSome ⟨by omega, by simp, u, rfl, u1, ?_⟩
      rcases Classical.em (Cl E s t) with c | c
      · rw [u4 c]; exact .inl c
      · rcases hc with hc | hc
        · exact absurd hc c
        · right
          rcases Nat.lt_or_ge (cnt N t) (cnt N u) with d | d
          · omega
          · exfalso
            have hul := u1.sub.lt hs
            have e := inc_eq_cntT hul u2 d
            refine c fun k hk a b => ?_
            have := u3 k hk a b
            rw [← e] at this
            exact ⟨fun q => (this (.inl q)).2, fun q => (this (.inr q)).1⟩
  · rintro _ ⟨t, rfl, g, hc⟩
    refine gSome ?_
    rw [decide_eq_true_eq, ← g.conn hlow.bit hc]
    omega
theorem fam_pwT {m : Nat} {K : List Nat} (h8 : m ≤ 8) (h1 : ∀ s, s ∈ K → s < 2 ^ m) (h2 : K.Pairwise (· < ·)) : Fam m K := ⟨h8, h1, fun i j hij hj => by
  rw [List.pairwise_iff_getElem] at h2
  have := h2 i j (by omega) hj hij
  simpa [List.getD_eq_getElem?_getD, List.getElem?_eq_getElem hj, List.getElem?_eq_getElem (show i < K.length by omega)] using this⟩
theorem Tree_spec (n : Int) (E : List (Int × Int)) : Gets (convex_Tree n E) (fun r => r.2 = 0 → ∃ (m : Nat) (L : List Nat), n = (m : Int) ∧ r.1 = cs L ∧ Anti m L) := by
  unfold convex_Tree
  refine gBind (CheckGraphT_spec n E) fun y hy => gIte (fun q => gSome fun e => absurd e q) fun q => ?_
  obtain ⟨N, rfl, h⟩ := hy (by simpa using q)
  have h7 := h.n7
  have h8 := h.e8
  have hp2 : 0 < 2 ^ N := Nat.pow_pos (by omega)
  have hp7 : 2 ^ N ≤ 2 ^ 7 := Nat.pow_le_pow_right (by omega) h7
  have e1 : (((2 ^ N : Nat) : Int) - 1) = ((2 ^ N - 1 : Nat) : Int) := by omega
  simp only [toNat_nat, shl_nat', e1]
  refine gChk (by omega) (gChk (by omega) ?_)
  refine gBind (R := fun b => (E.length : Int) = N - 1 → (b = true ↔ Conn E (2 ^ N - 1))) (gIte (fun _ => (joined_spec h (full_lt N)).mono fun b hb _ => hb) fun q => gSome fun e => absurd (fun z => z e) q) fun b hb => ?_
  refine gIte (fun _ => gSome fun e => absurd e (by simp)) fun h1 => gChk (by omega) ?_
  have hlen : (E.length : Int) = N - 1 := by
    rcases Classical.em ((E.length : Int) = N - 1) with c | c
    · exact c
    · exact absurd (.inl c) h1
  have hT : IsTree N E := ⟨h, by have := h.n1; omega, (hb hlen).1 (by
    cases b with
    | true => rfl
    | false => exact absurd (.inr (by simp)) h1)⟩
  refine gBind (R := fun l => ∃ L : List Nat, l = cs L ∧ Fam N L ∧ ∀ s, s ∈ L ↔ s < 2 ^ N ∧ Conn E (cpl N s)) (gFor (2 ^ N) (fun k (x : List Int × Int) => x.2 = (k : Int) ∧ ∃ L : List Nat, x.1 = cs L ∧ L.Pairwise (· < ·) ∧ L.length ≤ k ∧ ∀ s, s ∈ L ↔ s < k ∧ Conn E (cpl N s)) (Nat.zero_le _) ⟨rfl, [], rfl, List.Pairwise.nil, Nat.le_refl _, fun s => ⟨fun h => (by cases h), fun h => absurd h.1 (by omega)⟩⟩ ?_) ?_
  · rintro k ⟨_, _⟩ hk ⟨rfl, L, rfl, b1, b2, b3⟩
    dsimp only
    refine gIte (fun h2 => ?_) fun h2 => ?_
    rotate_left
    · have e : k = 2 ^ N := by omega
      subst e
      exact gSome ⟨L, rfl, fam_pwT (by omega) (fun s hs => ((b3 s).1 hs).1) b1, b3⟩
    have hk' : k < 2 ^ N := by omega
    have e3 : iandnot ((2 ^ N - 1 : Nat) : Int) (k : Int) = ((cpl N k : Nat) : Int) := dif_nat _ _
    rw [e3]
    refine gBind (joined_spec h (cpl_lt N k)) fun c hc => gIte (fun h3 => gChk (by rw [List.length_append, cs_len]; simp only [List.length_cons, List.length_nil]; omega) (gSome ⟨hk', by simp, L ++ [k], cs_app _ _, List.pairwise_append.2 ⟨b1, List.pairwise_singleton _ _, fun a ha b hb => ?_⟩, by rw [List.length_append]; simp only [List.length_cons, List.length_nil]; omega, fun s => ?_⟩)) fun h3 => gSome ⟨hk', by simp, L, rfl, b1, by omega, fun s => ?_⟩
    · rw [List.mem_singleton] at hb; subst hb; exact ((b3 a).1 ha).1
    · rw [List.mem_append, List.mem_singleton, b3]
      constructor
      · rintro (q | q)
        · exact ⟨by omega, q.2⟩
        · subst q; exact ⟨by omega, hc.1 h3⟩
      · intro q
        rcases Nat.lt_succ_iff_lt_or_eq.1 q.1 with c | c
        · exact .inl ⟨c, q.2⟩
        · exact .inr c
    · rw [b3]
      refine ⟨fun q => ⟨by omega, q.2⟩, fun q => ⟨?_, q.2⟩⟩
      rcases Nat.lt_succ_iff_lt_or_eq.1 q.1 with c | c
      · exact c
      · subst c; exact absurd (hc.2 q.2) h3
  · rintro _ ⟨L, rfl, hF, hm⟩
    exact gSome fun _ => ⟨N, L, rfl, rfl, hT.anti hF hm⟩
end

/-! ### the first order -/
theorem pre_app (O : List Nat) (i : Nat) : ∀ j, j ≤ O.length → pre (O ++ [i]) j = pre O j
  | 0, _ => rfl
  | j + 1, hj => by
    rw [pre, pre, pre_app O i j (by omega), List.getD_eq_getElem?_getD, List.getElem?_append_left (by omega), ← List.getD_eq_getElem?_getD]
/-- An order in which all can be taken away. -/
structure Goes (m : Nat) (L O : List Nat) (k : Nat) : Prop where
  lt : ∀ j, j < k → O.getD j 0 < m
  new : ∀ j, j < k → (pre O j).testBit (O.getD j 0) = false
  mem : ∀ j, j < k → pre O j ||| 2 ^ O.getD j 0 ∈ L
theorem First_spec {m : Nat} {L : List Nat} (h : Anti m L) : Gets (convex_First m (cs L)) (fun r => ∃ O : List Nat, r = (cs O, 0) ∧ O.length = m ∧ Goes m L O m) := by
  have hm8 := h.m8
  have hp8 := pow_le8 hm8
  have hp2 : 0 < 2 ^ m := Nat.pow_pos (by omega)
  unfold convex_First
  refine gBindE h.check (gIte (fun q => absurd rfl q) fun _ => ?_)
  refine gBind (R := fun l => ∃ O : List Nat, l = cs O ∧ O.length = m ∧ Goes m L O m) (gFor m (fun k (x : List Int × Int × Int) => x.2.2 = (k : Int) ∧ ∃ O : List Nat, x.1 = cs O ∧ x.2.1 = ((pre O k : Nat) : Int) ∧ O.length = k ∧ pre O k ∈ L ∧ cnt m (pre O k) = k ∧ Goes m L O k) (Nat.zero_le _) ⟨rfl, [], rfl, rfl, rfl, h.z, cnt_zero m, none_all, none_all, none_all⟩ ?_) ?_
  · rintro k ⟨_, _, _⟩ hk ⟨rfl, O, rfl, rfl, o1, o2, o3, o4⟩
    dsimp only
    refine gIte (fun h1 => ?_) fun h1 => ?_
    rotate_left
    · have e : k = m := by omega
      subst e
      exact gSome ⟨O, rfl, o1, o4⟩
    have hk' : k < m := by omega
    have hsl := h.lt _ o2
    obtain ⟨w, w1, w2, w3⟩ := h.grow o2 m (2 ^ m - 1) (cnt_le _ _) h.full fun hi => by
      have := cnt_le_of_inc (m := m) hi
      have e : cnt m (2 ^ m - 1) = m := by
        have : ∀ j, j ≤ m → cnt j (2 ^ m - 1) = j := fun j => by
          induction j with
          | zero => intro _; rfl
          | succ j ih => intro hj; simp only [cnt]; rw [ih (by omega), Nat.testBit_two_pow_sub_one]; simp [show j < m by omega]
        exact this m (Nat.le_refl _)
      omega
    have hw : w < m := by rw [Nat.testBit_two_pow_sub_one, decide_eq_true_eq] at w1; exact w1
    refine gBind (R := fun z => ∃ i, z = (cs (O ++ [i]), ((pre O k ||| 2 ^ i : Nat) : Int)) ∧ i < m ∧ (pre O k).testBit i = false ∧ pre O k ||| 2 ^ i ∈ L) (gFor m (fun j v => v = (j : Int) ∧ j ≤ w) (Nat.zero_le _) ⟨rfl, Nat.zero_le _⟩ ?_) ?_
    · rintro j _ hj ⟨rfl, hjw⟩
      simp only [toNat_nat, shl_nat', or_nat]
      refine gIte (fun h2 => ?_) fun h2 => absurd h2 (by omega)
      have hj' : j < m := by omega
      have eb : iand (((pre O k : Nat) : Int) / ((2 ^ j : Nat) : Int)) 1 = if (pre O k).testBit j = true then 1 else 0 := by
        have := bit_nat (pre O k) j
        rwa [toNat_nat, shl_nat'] at this
      rw [eb]
      refine gChk (by omega) ?_
      cases hb : (pre O k).testBit j with
      | true =>
        refine gBindE (show _ = some false by rw [if_neg (by simp)]) (gIte (fun q => absurd q.1 (by simp)) fun _ => gSome ⟨hj', by simp, ?_⟩)
        rcases Nat.lt_or_eq_of_le hjw with c | c
        · omega
        · subst c; rw [hb] at w2; cases w2
      | false =>
        refine gBindE (show _ = some (decide (pre O k ||| 2 ^ j ∈ L)) by rw [if_pos (by simp)]; exact h.toFam.has _) ?_
        refine gIte (fun q => ?_) fun q => gSome ⟨hj', by simp, ?_⟩
        · have hin : pre O k ||| 2 ^ j ∈ L := by simpa using q.2
          exact gChk (by omega) (gChk (by rw [List.length_append, cs_len]; simp only [List.length_cons, List.length_nil]; omega) (gSome ⟨j, by rw [cs_app], hj', hb, hin⟩))
        · rcases Nat.lt_or_eq_of_le hjw with c | c
          · omega
          · subst c; exact absurd ⟨by simp, by simpa using w3⟩ q
    · rintro _ ⟨i, rfl, i1, i2, i3⟩
      have e1 : (O ++ [i]).getD k 0 = i := by
        rw [List.getD_eq_getElem?_getD, List.getElem?_append_right (by omega), o1, Nat.sub_self]; rfl
      have e2 : ∀ j, j < k → (O ++ [i]).getD j 0 = O.getD j 0 := fun j hj => by
        rw [List.getD_eq_getElem?_getD, List.getD_eq_getElem?_getD, List.getElem?_append_left (by omega)]
      have e3 : ∀ j, j ≤ k → pre (O ++ [i]) j = pre O j := fun j hj => pre_app O i j (by omega)
      have e4 : pre (O ++ [i]) (k + 1) = pre O k ||| 2 ^ i := by rw [pre, e3 k (Nat.le_refl _), e1]
      refine gSome ⟨hk', by simp, O ++ [i], rfl, by rw [e4], by rw [List.length_append]; simp only [List.length_cons, List.length_nil]; omega, by rw [e4]; exact i3, by rw [e4, cnt_add i1 i2]; omega, ⟨step_all (fun j hj => by rw [e2 j hj]; exact o4.lt j hj) (by rw [e1]; exact i1), step_all (fun j hj => by rw [e2 j hj, e3 j (by omega)]; exact o4.new j hj) (by rw [e1, e3 k (Nat.le_refl _)]; exact i2), step_all (fun j hj => by rw [e2 j hj, e3 j (by omega)]; exact o4.mem j hj) (by rw [e1, e3 k (Nat.le_refl _)]; exact i3)⟩⟩
  · rintro _ ⟨O, rfl, a, b⟩
    exact gSome ⟨O, rfl, a, b⟩

/-! ### as many orders as one at least -/
theorem ways_pos {m : Nat} {L : List Nat} (h : Anti m L) : ∀ s, s ∈ L → 1 ≤ ways m (mb L) s := by
  intro s
  induction s using Nat.strongRecOn with
  | ind s ih =>
    intro hs
    rcases Classical.em (s = 0) with c | c
    · subst c; rw [ways_zero]; exact Int.le_refl _
    · obtain ⟨i, i1, i2⟩ := h.acc s hs c
      have hsl := h.lt s hs
      have hi := bit_lt hsl i1
      have h1 := ih _ (dif_lt_self i1) i2
      rw [ways_ne c]
      have e := sumN_le (n := m) (g := fun j => if j = i then (1 : Int) else 0) (h := fun i => if s.testBit i = true ∧ mb L (dif s (2 ^ i)) = true then ways m (mb L) (dif s (2 ^ i)) else 0) fun j hj => by
        by_cases d : j = i
        · subst d
          rw [if_pos rfl, if_pos ⟨i1, by unfold mb; exact decide_eq_true i2⟩]; exact h1
        · rw [if_neg d]
          split
          · exact (ways_bd h.m8 (mb L) _ (dif_lt hsl)).1
          · exact Int.le_refl _
      rwa [sumN_single m i 1 hi] at e

/-! ### what is ordered -/
theorem ContainsE (E : List (Int × Int)) {f : Int → Int → Option Bool} (hf : ∀ k, k < E.length → Gets (f (E.getD k (0, 0)).1 (E.getD k (0, 0)).2) fun _ => True) (hl : E.length ≤ 9223372036854775807) : Gets (slices_ContainsFunc_api_Edge_api_Edge E f) fun _ => True := by
  unfold slices_ContainsFunc_api_Edge_api_Edge
  refine gBind (R := fun _ => True) ?_ fun y _ => gSome trivial
  unfold slices_IndexFunc_api_Edge_api_Edge
  refine gBind (R := fun z => True) (gFor E.length (fun k v => v = (k : Int)) (Nat.zero_le _) rfl ?_) ?_
  · rintro k _ hk rfl
    refine gIte (fun h1 => gChk (by omega) ?_) fun h1 => gSome trivial
    refine gBind (hf k (by omega)) fun b _ => gIte (fun _ => gSome trivial) fun _ => gSome ⟨by omega, by simp⟩
  · rintro (u | r) _
    · exact gSome trivial
    · exact gSome trivial
theorem Ordered_spec (n : Int) (E : List (Int × Int)) (hl : E.length ≤ 9223372036854775807) : Gets (convex_Ordered n E) (fun r => r.2 = 0 → convex_Check n r.1 = some 0 ∧ r.1.length ≤ 256) := by
  unfold convex_Ordered
  refine gIte (fun _ => gSome fun e => absurd e (by simp)) fun hn => ?_
  obtain ⟨m, rfl⟩ := Int.eq_ofNat_of_zero_le (show 0 ≤ n by omega)
  have hp8 := pow_le8 (show m ≤ 8 by omega)
  refine gBind (R := fun z => match z with | .inl _ => ∀ k, k < E.length → 0 ≤ (E.getD k (0, 0)).1 ∧ 0 ≤ (E.getD k (0, 0)).2 | .inr r => r.2 ≠ 0) (gFor E.length (fun k v => v = (k : Int) ∧ ∀ j, j < k → 0 ≤ (E.getD j (0, 0)).1 ∧ 0 ≤ (E.getD j (0, 0)).2) (Nat.zero_le _) ⟨rfl, none_all⟩ ?_) ?_
  · rintro k _ hk ⟨rfl, hb⟩
    simp only [toNat_nat]
    refine gIte (fun h1 => gChk (by omega) (gIte (fun _ => gSome (show (1 : Int) ≠ 0 by omega)) fun h2 => gSome ⟨by omega, by simp, step_all hb (by omega)⟩)) fun h1 => gSome fun j hj => hb j (by omega)
  rintro (u | r) hz
  rotate_left
  · exact gSome fun e => absurd e hz
  simp only [toNat_nat, shl_nat']
  refine gChk (by omega) (gBind (R := fun l => l.length ≤ 256) (gFor (2 ^ m) (fun k (x : List Int × Int) => x.2 = (k : Int) ∧ x.1.length ≤ k) (Nat.zero_le _) ⟨rfl, Nat.le_refl _⟩ ?_) fun l hll => ?_)
  · rintro k ⟨l, _⟩ hk ⟨rfl, hI⟩
    dsimp only at hI ⊢
    refine gIte (fun h1 => ?_) fun h1 => gSome (by omega)
    refine gBind (ContainsE E (fun j hj => ?_) hl) fun b _ => ?_
    · unfold convex_Ordered_1
      exact gChk ⟨(hz j hj).2, fun _ => (hz j hj).1⟩ (gSome trivial)
    · refine gIte (fun _ => gChk (by rw [List.length_append]; simp only [List.length_cons, List.length_nil]; omega) (gSome ⟨by omega, by simp, by rw [List.length_append]; simp only [List.length_cons, List.length_nil]; omega⟩)) fun _ => gSome ⟨by omega, by simp, Nat.le_succ_of_le hI⟩
  · obtain ⟨c, hc, _⟩ := convex_Check_spec m l (by omega)
    refine gBindE hc ?_
    refine gBind (R := fun _ => True) (gIte (fun _ => ContainsE E (fun j hj => by unfold convex_Ordered_2; exact gSome trivial) hl) fun _ => gSome trivial) fun b _ => ?_
    refine gIte (fun _ => gSome fun e => absurd e (by simp)) fun q => gSome fun _ => ?_
    have : c = 0 := by
      rcases Classical.em (c = 0) with d | d
      · exact d
      · exact absurd (.inl d) q
    rw [this] at hc; exact ⟨hc, hll⟩
end Go.SH
