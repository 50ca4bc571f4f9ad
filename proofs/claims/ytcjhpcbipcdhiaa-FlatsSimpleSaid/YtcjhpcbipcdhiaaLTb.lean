/-
  The ranks of minors, and the components as they are computed. Conditions: none.
-/
import Derived.Test.YtcjhpcbipcdhiaaLTa
import Derived.Test.YtcjhpcbipcdhiaaLSt
set_option linter.unusedSimpArgs false
set_option linter.unusedVariables false
namespace Go.SH
open Go Go.AX

def upS' (m s X : Nat) : Nat := mkset m fun i => !s.testBit i && X.testBit (ps i s)
theorem pk_full (m s : Nat) : pk m s (2 ^ m - 1) = 2 ^ ps m s - 1 := by
  have e0 : cpl m 0 = 2 ^ m - 1 := Nat.eq_of_testBit_eq fun i => by rw [cpl_bit, full_bit]; simp
  have e1 : pk m s 0 = 0 := Nat.eq_of_testBit_eq fun j => by
    rw [Nat.zero_testBit]
    cases q : (pk m s 0).testBit j
    · rfl
    · obtain ⟨i, _, _, h3, _⟩ := (pk_bit m s 0 j).1 q
      simp at h3
  have := pk_cpl (m := m) (g := s) (s := 0)
  rw [e0, e1] at this
  rw [this]
  exact Nat.eq_of_testBit_eq fun i => by rw [cpl_bit, full_bit]; simp
theorem pk_up {m s X : Nat} (hX : X < 2 ^ ps m s) : pk m s (upS' m s X) = X := set_ext (pk_lt _ _ _) hX fun j hj => by
  rw [Bool.eq_iff_iff, pk_bit]
  constructor
  · rintro ⟨i, h1, h2, h3, rfl⟩
    unfold upS' at h3
    rw [mkset_bit] at h3
    simpa [h1, h2] using h3
  · intro hb
    have : (pk m s (2 ^ m - 1)).testBit j = true := by rw [pk_full, full_bit]; simpa using hj
    obtain ⟨i, h1, h2, _, h4⟩ := (pk_bit m s _ j).1 this
    exact ⟨i, h1, h2, by unfold upS'; rw [mkset_bit, h4]; simp [h1, h2, hb], h4⟩
theorem up_inc (m s X : Nat) : Inc (upS' m s X) (cpl m s) := fun i hi => by
  unfold upS' at hi
  rw [mkset_bit] at hi
  rw [cpl_bit]
  simp only [Bool.and_eq_true] at hi
  simp [hi.1, hi.2.1]
section
variable {m : Nat} {B : List Nat} (h : Mat m B)
include h
theorem Mat.maxK_rk {T b : Nat} (hb : MaxK m B T b) : cnt m (b &&& T) = rk m B T := by
  obtain ⟨c, hc, e⟩ := h.rk_mem T
  have h1 := hb.2 c hc
  have h2 := le_rk (m := m) (s := T) hb.1
  rw [Nat.and_comm] at e
  rw [Nat.and_comm] at h2
  omega
theorem Mat.maxK_of {T b : Nat} (hb : b ∈ B) (h1 : rk m B T ≤ cnt m (b &&& T)) : MaxK m B T b := have _ := h; ⟨hb, fun b' hb' => by
  have h2 := le_rk (m := m) (s := T) hb'
  rw [Nat.and_comm] at h2
  omega⟩
theorem Mat.del_rk {s X : Nat} {K : List Nat} (hm : ∀ x, x ∈ K ↔ ∃ b, MaxK m B (cpl m s) b ∧ x = pk m s b) : rk (ps m s) K (pk m s X) = rk m B (dif X s) := by
  have eq1 : ∀ b, cnt (ps m s) (pk m s X &&& pk m s b) = cnt m (dif X s &&& b) := fun b => by
    rw [← pk_and, cnt_pk]
    congr 1
    exact Nat.eq_of_testBit_eq fun i => by
      rw [testBit_dif, Nat.testBit_and, Nat.testBit_and, testBit_dif]
      cases X.testBit i <;> cases b.testBit i <;> cases s.testBit i <;> rfl
  refine Nat.le_antisymm (rk_le.2 fun x hx => ?_) ?_
  · obtain ⟨b, hb, rfl⟩ := (hm x).1 hx
    rw [eq1]
    exact le_rk hb.1
  · obtain ⟨I, i1, i2, i3⟩ := h.rk_ind (s := dif X s)
    have hI := h.ind_lt i1
    obtain ⟨J, j1, j2, j3, j4⟩ := h.extend (u := cpl m s) _ I (Nat.le_refl _) i1 fun i hi => by
      have := i2 i hi
      rw [testBit_dif] at this
      simp only [Bool.and_eq_true, Bool.not_eq_true'] at this
      rw [cpl_bit, this.2]; simp [bit_lt hI hi]
    obtain ⟨b, b1, b2⟩ := j1
    have hK := h.maxK_of (T := cpl m s) b1 (by rw [← j4]; exact cnt_le_of_inc (inc_and b2 j3))
    have := le_rk (m := ps m s) (s := pk m s X) ((hm _).2 ⟨b, hK, rfl⟩)
    rw [eq1] at this
    rw [← i3]
    exact Nat.le_trans (cnt_le_of_inc (inc_and i2 (j2.trans b2))) this
theorem Mat.con_rk {s X : Nat} {K : List Nat} (hX : X < 2 ^ m) (hs : s < 2 ^ m) (hm : ∀ x, x ∈ K ↔ ∃ b, MaxK m B s b ∧ x = pk m s b) : rk (ps m s) K (pk m s X) + rk m B s = rk m B (X ||| s) := by
  have hmono := h.rk_mono (inc_or_r X s)
  have eq1 : ∀ b, cnt (ps m s) (pk m s X &&& pk m s b) = cnt m (dif (X &&& b) s) := fun b => by rw [← pk_and, cnt_pk]
  have eq2 : ∀ b, cnt m ((X ||| s) &&& b) = cnt m (b &&& s) + cnt m (dif (X &&& b) s) := fun b => by
    rw [cnt_split m ((X ||| s) &&& b) s]
    congr 2
    · exact Nat.eq_of_testBit_eq fun i => by
        rw [Nat.testBit_and, Nat.testBit_and, Nat.testBit_or, Nat.testBit_and]
        cases X.testBit i <;> cases b.testBit i <;> cases s.testBit i <;> rfl
    · exact Nat.eq_of_testBit_eq fun i => by
        rw [testBit_dif, testBit_dif, Nat.testBit_and, Nat.testBit_or, Nat.testBit_and]
        cases X.testBit i <;> cases b.testBit i <;> cases s.testBit i <;> rfl
  have up : rk (ps m s) K (pk m s X) ≤ rk m B (X ||| s) - rk m B s := rk_le.2 fun x hx => by
    obtain ⟨b, hb, rfl⟩ := (hm x).1 hx
    have h1 := h.maxK_rk hb
    have h2 := le_rk (m := m) (s := X ||| s) hb.1
    rw [eq2] at h2
    rw [eq1]
    omega
  obtain ⟨I, i1, i2, i3⟩ := h.rk_ind (s := s)
  obtain ⟨J, j1, j2, j3, j4⟩ := h.extend (u := X ||| s) _ I (Nat.le_refl _) i1 (i2.trans (inc_or_r _ _))
  have c1 := cnt_split m J s
  have c2 := h.ind_le (j1.mono (inc_and_l J s)) (inc_and_r J s)
  obtain ⟨b, b1, b2⟩ := j1
  have hK := h.maxK_of (T := s) b1 (by rw [← i3]; exact cnt_le_of_inc (inc_and (j2.trans b2) i2))
  have h3 := le_rk (m := ps m s) (s := pk m s X) ((hm _).2 ⟨b, hK, rfl⟩)
  rw [eq1] at h3
  have h4 : cnt m (dif J s) ≤ cnt m (dif (X &&& b) s) := cnt_le_of_inc fun i hi => by
    rw [testBit_dif] at hi ⊢
    simp only [Bool.and_eq_true, Bool.not_eq_true'] at hi
    have q1 := j3 i hi.1
    rw [Nat.testBit_or, hi.2, Bool.or_false] at q1
    rw [Nat.testBit_and, q1, b2 i hi.1, hi.2]; rfl
  omega
end

/-- The component of an element. -/
structure IsComp (m : Nat) (B : List Nat) (v s : Nat) : Prop where
  lt : s < 2 ^ m
  mem : s.testBit v = true
  sep : Sep m B s
  least : ∀ S, S < 2 ^ m → Sep m B S → S.testBit v = true → Inc s S
theorem Components_ok {m : Nat} {B : List Nat} (h : Mat m B) : ∃ K, minors_Components m (cs B) = some (cs K, 0) ∧ Fam m K ∧ (∀ s, s ∈ K → ∃ v, v < m ∧ IsComp m B v s) ∧ ∀ v, v < m → ∃ s, s ∈ K ∧ IsComp m B v s := by
  have h8 := h.m8
  have h256 := pow_le8 h8
  have hlen := h.len
  obtain ⟨y, e1, hy⟩ := axioms_Circuits_spec m (cs B) (by simp; omega)
  rcases hy with ⟨y0, m', B', d1, d2, _, hC⟩ | ⟨_, _, hn⟩
  rotate_left
  · exact absurd ⟨m, B, rfl, rfl, h⟩ hn
  have d3 : m = m' := Int.ofNat.inj d1
  have d4 := cs_inj d2
  subst d3 d4
  obtain ⟨y1, y2⟩ := y
  simp only at y0 hC
  subst y0 hC
  have hCf := filter_fam h8 (fun s => decide (Circ m B s))
  have hCm : ∀ k, k < ((List.range (2 ^ m)).filter fun s => decide (Circ m B s)).length → ((List.range (2 ^ m)).filter fun s => decide (Circ m B s)).getD k 0 < 2 ^ m ∧ Circ m B (((List.range (2 ^ m)).filter fun s => decide (Circ m B s)).getD k 0) := fun k hk => by
    have := mem_getD.2 ⟨k, hk, rfl⟩
    rw [List.mem_filter, List.mem_range, decide_eq_true_eq] at this
    exact this
  have hCc : ∀ C, C < 2 ^ m → Circ m B C → ∃ k, k < ((List.range (2 ^ m)).filter fun s => decide (Circ m B s)).length ∧ ((List.range (2 ^ m)).filter fun s => decide (Circ m B s)).getD k 0 = C := fun C c1 c2 => by
    refine mem_getD.1 ?_
    rw [List.mem_filter, List.mem_range, decide_eq_true_eq]
    exact ⟨c1, c2⟩
  have hCl := hCf.len
  generalize ((List.range (2 ^ m)).filter fun s => decide (Circ m B s)) = CL at *
  suffices hg : Gets (minors_Components m (cs B)) (fun r => ∃ K, r = (cs K, 0) ∧ Fam m K ∧ (∀ s, s ∈ K → ∃ v, v < m ∧ IsComp m B v s) ∧ ∀ v, v < m → ∃ s, s ∈ K ∧ IsComp m B v s) by
    obtain ⟨r, g1, K, rfl, g2⟩ := hg
    exact ⟨K, g1, g2⟩
  unfold minors_Components
  refine gBindE e1 (gIte (fun q => absurd rfl q) fun _ => ?_)
  refine gBind (R := fun o => ∃ N, o = cs N ∧ N.length = m ∧ ∀ j, j < m → IsComp m B j (N.getD j 0))
    (gFor m (fun k (x : List Int × Int) => x.2 = (k : Int) ∧ ∃ N, x.1 = cs N ∧ N.length = k ∧ ∀ j, j < k → IsComp m B j (N.getD j 0)) (Nat.zero_le _) ⟨rfl, [], rfl, rfl, none_all⟩ ?_) ?_
  · rintro v ⟨_, _⟩ hv ⟨rfl, N, en, n1, n2⟩
    simp only at en
    subst en
    simp only [toNat_nat, shl_nat']
    refine gIte (fun q1 => ?_) fun q1 => gSome (by have e : v = m := by omega
                                                   subst e; exact ⟨N, rfl, n1, n2⟩)
    have hv' : v < m := by omega
    refine gChk (by omega) (gBind (R := fun o => ∃ s : Nat, o = (s : Int) ∧ IsComp m B v s)
      (gFor m (fun k (x : Int × Int) => x.2 = (k : Int) ∧ ∃ s : Nat, x.1 = (s : Int) ∧ s < 2 ^ m ∧ s.testBit v = true ∧ (∀ S, S < 2 ^ m → Sep m B S → S.testBit v = true → Inc s S) ∧ (Sep m B s ∨ k + 1 ≤ cnt m s)) (Nat.zero_le _) ⟨rfl, 2 ^ v, rfl, pow_lt hv', by rw [testBit_pow]; simp, fun S _ _ hS => inc_pow hS, .inr (cnt_pos (pow_lt hv') (i := v) (by rw [testBit_pow]; simp))⟩ ?_) ?_)
    · rintro k ⟨_, _⟩ hk ⟨rfl, s, rfl, s1, s2, s3, s4⟩
      refine gIte (fun q2 => ?_) fun q2 => gSome ⟨s, rfl, s1, s2, ?_, s3⟩
      rotate_left
      · rcases s4 with q | q
        · exact q
        · have := cnt_le m s; omega
      refine gBind (R := fun o => ∃ t : Nat, o = (t : Int) ∧ t < 2 ^ m ∧ (∀ S, S < 2 ^ m → Sep m B S → S.testBit v = true → Inc t S) ∧ Inc s t ∧ (t = s → Sep m B s))
        (gFor CL.length (fun k2 (x : Int × Int) => x.2 = (k2 : Int) ∧ ∃ t : Nat, x.1 = (t : Int) ∧ t < 2 ^ m ∧ (∀ S, S < 2 ^ m → Sep m B S → S.testBit v = true → Inc t S) ∧ Inc s t ∧ (t = s → ∀ j, j < k2 → CL.getD j 0 &&& s ≠ 0 → Inc (CL.getD j 0) s)) (Nat.zero_le _) ⟨rfl, s, rfl, s1, s3, Inc.refl s, fun _ => none_all⟩ ?_) ?_
      · rintro k2 ⟨_, _⟩ hk2 ⟨rfl, t, rfl, t1, t2, t3, t4⟩
        simp only [cs_len, cs_get, toNat_nat, and_nat, or_nat]
        refine gIte (fun q3 => gChk (by omega) ?_) fun q3 => gSome ⟨t, rfl, t1, t2, t3, fun e C c1 c2 c3 => ?_⟩
        rotate_left
        · obtain ⟨j, j1, rfl⟩ := hCc C c1 c2
          exact t4 e j (by omega) c3
        have hk2' : k2 < CL.length := by omega
        obtain ⟨c1, c2⟩ := hCm k2 hk2'
        refine gIte (fun q4 => gSome ⟨hk2', by simp, _, rfl, or_lt t1 c1, fun S g1 g2 g3 => ?_, t3.trans (inc_or_l _ _), fun e j hj => ?_⟩) fun q4 => gSome ⟨hk2', by simp, t, rfl, t1, t2, t3, fun e j hj hne => ?_⟩
        · have hi := t2 S g1 g2 g3
          obtain ⟨i, i1, i2⟩ := bit_and (a := CL.getD k2 0) (b := t) (by omega)
          exact inc_or hi (g2 _ c1 c2 (and_bit i1 (hi i i2)))
        · have e2 : t = s := Inc.antisymm (by rw [← e]; exact inc_or_l _ _) t3
          rcases Nat.lt_succ_iff_lt_or_eq.1 hj with c | rfl
          · exact t4 e2 j c
          · intro _
            have : Inc (CL.getD j 0) (t ||| CL.getD j 0) := inc_or_r _ _
            rwa [e] at this
        · rcases Nat.lt_succ_iff_lt_or_eq.1 hj with c | rfl
          · exact t4 e j c hne
          · rw [← e] at hne; omega
      · rintro _ ⟨t, rfl, t1, t2, t3, t4⟩
        refine gSome ⟨by omega, by simp, t, rfl, t1, t3 v s2, t2, ?_⟩
        rcases Nat.decEq t s with e | e
        · rcases s4 with q | q
          · exact absurd (Inc.antisymm (t2 s s1 q s2) t3) e
          · right
            rcases Nat.lt_or_ge (cnt m s) (cnt m t) with c | c
            · omega
            · exact absurd (inc_eq_of_cnt t3 t1 c).symm e
        · subst e; exact .inl (t4 rfl)
    · rintro _ ⟨s, rfl, s1, s2, s3, s4⟩
      refine gChk (by rw [List.length_append, cs_len]; simp only [List.length_cons, List.length_nil]; omega) (gSome ⟨hv', by simp, N ++ [s], by rw [cs_app], by simp [n1], fun j hj => ?_⟩)
      rcases Nat.lt_succ_iff_lt_or_eq.1 hj with c | rfl
      · have : (N ++ [s]).getD j 0 = N.getD j 0 := by
          simp only [List.getD_eq_getElem?_getD]
          rw [List.getElem?_append_left (by omega)]
        rw [this]; exact n2 j c
      · have : (N ++ [s]).getD j 0 = s := by
          simp only [List.getD_eq_getElem?_getD]
          rw [List.getElem?_append_right (by omega), n1]; simp
        rw [this]; exact ⟨s1, s2, s3, s4⟩
  · rintro _ ⟨N, rfl, n1, n2⟩
    obtain ⟨K, k1, k2, k3⟩ := sortU h8 N fun s hs => by
      obtain ⟨j, j1, rfl⟩ := mem_getD.1 hs
      exact (n2 j (by omega)).lt
    have := k2.len
    rw [k1]
    refine gChk (by simp; omega) (gChk (by simp; omega) (gSome ⟨K, rfl, k2, fun s hs => ?_, fun v hv => ⟨N.getD v 0, (k3 _).2 (mem_getD.2 ⟨v, by omega, rfl⟩), n2 v hv⟩⟩))
    obtain ⟨j, j1, rfl⟩ := mem_getD.1 ((k3 s).1 hs)
    exact ⟨j, by omega, n2 j (by omega)⟩
theorem Components_spec (n : Int) (l : List Int) (hl : l.length ≤ 9223372036854775807) : Gets (minors_Components n l) (fun r => (r.2 ≠ 0 ∧ r.1 = []) ∨ (r.2 = 0 ∧ ∃ m B, n = (m : Nat) ∧ l = cs B ∧ Mat m B)) := by
  obtain ⟨y, e1, hy⟩ := axioms_Circuits_spec n l hl
  rcases hy with ⟨y0, m, B, rfl, rfl, h, hC⟩ | ⟨h1, _, hn⟩
  · obtain ⟨K, k1, _⟩ := Components_ok h
    exact ⟨_, k1, .inr ⟨rfl, m, B, rfl, rfl, h⟩⟩
  · unfold minors_Components
    exact gBindE e1 (gIte (fun _ => gSome (.inl ⟨h1, rfl⟩)) fun q => absurd h1 q)
end Go.SH
