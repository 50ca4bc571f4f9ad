/-
  TUTTE: a connected matroid stays so without an element or over it. The ranks of minors, and the components as they are computed.  Conditions: none.
-/
import Derived.Test.YtkjfccdfmjnkbaaLQ
import Derived.Test.YtkjfccdfmjnkbaaLF
import Derived.Test.YtkjfccdfmjnkbaaLSt

set_option linter.unusedSimpArgs false
set_option linter.unusedVariables false
namespace Go.SH
open Go Go.AX

/-- A set that no circuit leaves. -/
def Sep (m : Nat) (B : List Nat) (S : Nat) : Prop := ∀ C, C < 2 ^ m → Circ m B C → C &&& S ≠ 0 → Inc C S
theorem and_bit {a b i : Nat} (h1 : a.testBit i = true) (h2 : b.testBit i = true) : a &&& b ≠ 0 := fun e => by
  have : (a &&& b).testBit i = true := by rw [Nat.testBit_and, h1, h2]; rfl
  rw [e] at this; simp at this
theorem bit_and {a b : Nat} (h : a &&& b ≠ 0) : ∃ i, a.testBit i = true ∧ b.testBit i = true := by
  obtain ⟨i, hi⟩ := exists_bit h
  rw [Nat.testBit_and, Bool.and_eq_true] at hi
  exact ⟨i, hi⟩
theorem full_inc {m s : Nat} (hs : s < 2 ^ m) : Inc s (2 ^ m - 1) := fun i hi => by rw [Nat.testBit_two_pow_sub_one]; simp [bit_lt hs hi]
section
variable {m : Nat} {B : List Nat} (h : Mat m B)
include h
theorem Mat.ind_rk {s : Nat} (hs : Ind B s) : rk m B s = cnt m s := (h.ind_iff (h.ind_lt hs)).1 hs
theorem Mat.sep_rk {S : Nat} (hS : S < 2 ^ m) (hs : Sep m B S) : rk m B S + rk m B (cpl m S) ≤ rk m B (2 ^ m - 1) := by
  obtain ⟨I, i1, i2, i3⟩ := h.rk_ind (s := S)
  obtain ⟨J, j1, j2, j3⟩ := h.rk_ind (s := cpl m S)
  have hI := h.ind_lt i1
  have hJ := h.ind_lt j1
  have hd : I &&& J = 0 := Nat.eq_of_testBit_eq fun i => by
    rw [Nat.testBit_and, Nat.zero_testBit]
    cases q1 : I.testBit i <;> cases q2 : J.testBit i <;> try rfl
    have a1 := i2 i q1
    have a2 := j2 i q2
    rw [cpl_bit, a1] at a2
    simp at a2
  have hc := cnt_or_and m I J
  rw [hd, cnt_zero] at hc
  have hIJ : rk m B (I ||| J) = cnt m (I ||| J) := by
    rcases Classical.em (rk m B (I ||| J) = cnt m (I ||| J)) with q | q
    · exact q
    · exfalso
      obtain ⟨C, c1, c2, c3⟩ := h.dep_circ _ _ (Nat.le_refl _) (or_lt hI hJ) q
      have hno : ∀ K, Ind B K → ¬ Inc C K := fun K hK hCK => by
        have := h.ind_rk (hK.mono hCK)
        have := c2.1
        omega
      by_cases z : C &&& S = 0
      · refine hno J j1 fun i hi => ?_
        have := c3 i hi
        rw [Nat.testBit_or, Bool.or_eq_true] at this
        rcases this with q2 | q2
        · exact absurd z (and_bit hi (i2 i q2))
        · exact q2
      · refine hno I i1 fun i hi => ?_
        have k1 := hs C c1 c2 z i hi
        have := c3 i hi
        rw [Nat.testBit_or, Bool.or_eq_true] at this
        rcases this with q2 | q2
        · exact q2
        · have := j2 i q2
          rw [cpl_bit, k1] at this
          simp at this
  have := h.rk_mono (full_inc (or_lt hI hJ))
  omega
theorem Mat.rk_sep {S : Nat} (hS : S < 2 ^ m) (hs : rk m B S + rk m B (cpl m S) ≤ rk m B (2 ^ m - 1)) : Sep m B S := by
  intro C c1 c2 hne
  rcases Classical.em (Inc C S) with q | q
  · exact q
  exfalso
  obtain ⟨i, i1, i2⟩ := bit_and hne
  obtain ⟨j, j1, j2⟩ := not_inc q
  -- both parts are independent
  have sub : ∀ D, Inc D C → ∀ x, C.testBit x = true → D.testBit x = false → rk m B D = cnt m D := fun D hD x hx hxD => by
    have hx' := bit_lt c1 hx
    have k := (h.ind_iff (dif_lt c1)).2 (c2.2 x hx' hx)
    refine h.ind_rk (k.mono fun y hy => ?_)
    rw [testBit_dif, hD y hy, testBit_pow]
    by_cases e : x = y
    · subst e; rw [hxD] at hy; cases hy
    · simp [e]
  have r1 := sub (C &&& S) (inc_and_l _ _) j j1 (by rw [Nat.testBit_and, j2, Bool.and_false])
  have r2 := sub (dif C S) (inc_dif _ _) i i1 (by rw [testBit_dif, i2]; simp)
  have r3 := cnt_split m C S
  have s1 := h.rk_sub C S
  have s2 := h.rk_sub (C ||| S) (cpl m S)
  have e1 : (C ||| S) ||| cpl m S = 2 ^ m - 1 := Nat.eq_of_testBit_eq fun k => by
    rw [Nat.testBit_or, Nat.testBit_or, cpl_bit, full_bit]
    cases q1 : C.testBit k with
    | true => simp [bit_lt c1 q1]
    | false =>
      cases q2 : S.testBit k with
      | true => simp [bit_lt hS q2]
      | false => simp
  have e2 : (C ||| S) &&& cpl m S = dif C S := Nat.eq_of_testBit_eq fun k => by
    rw [Nat.testBit_and, Nat.testBit_or, cpl_bit, testBit_dif]
    cases q1 : C.testBit k with
    | true => cases S.testBit k <;> simp [bit_lt c1 q1]
    | false => cases S.testBit k <;> simp
  rw [e1, e2] at s2
  have := c2.1
  omega
theorem Mat.cpl_sub {S : Nat} (hS : S < 2 ^ m) : rk m B (2 ^ m - 1) ≤ rk m B S + rk m B (cpl m S) := by
  have := h.rk_sub S (cpl m S)
  have e : S ||| cpl m S = 2 ^ m - 1 := Nat.eq_of_testBit_eq fun k => by
    rw [Nat.testBit_or, cpl_bit, full_bit]
    cases q2 : S.testBit k with
    | true => simp [bit_lt hS q2]
    | false => simp
  rw [e] at this
  omega
/-- TUTTE. -/
theorem Mat.tutte (hc : ∀ S, S < 2 ^ m → S ≠ 0 → cpl m S ≠ 0 → rk m B (2 ^ m - 1) < rk m B S + rk m B (cpl m S)) {e X U : Nat} (he : e < m) (hm : 2 ≤ m)
    (hX : Inc X (cpl m (2 ^ e))) (hU : Inc U (cpl m (2 ^ e))) (x1 : X ≠ 0) (x2 : dif (cpl m X) (2 ^ e) ≠ 0) (u1 : U ≠ 0) (u2 : dif (cpl m U) (2 ^ e) ≠ 0)
    (hd : rk m B X + rk m B (dif (cpl m X) (2 ^ e)) ≤ rk m B (dif (2 ^ m - 1) (2 ^ e)))
    (hk : rk m B (U ||| 2 ^ e) + rk m B (dif (cpl m U) (2 ^ e) ||| 2 ^ e) ≤ rk m B (2 ^ m - 1) + rk m B (2 ^ e)) : False := by
  have nX : X.testBit e = false := by
    cases q : X.testBit e
    · rfl
    · have := hX e q; rw [cpl_bit, testBit_pow] at this; simp at this
  have nU : U.testBit e = false := by
    cases q : U.testBit e
    · rfl
    · have := hU e q; rw [cpl_bit, testBit_pow] at this; simp at this
  have lX : X < 2 ^ m := hX.lt (cpl_lt _ _)
  have lU : U < 2 ^ m := hU.lt (cpl_lt _ _)
  have hdm : rk m B (dif (2 ^ m - 1) (2 ^ e)) ≤ rk m B (2 ^ m - 1) := h.rk_mono (inc_dif _ _)
  have he1 : rk m B (2 ^ e) ≤ 1 := by
    have := h.rk_step 0 he
    rw [Nat.zero_or, h.rk_zero] at this
    omega
  -- a part P of X and U: its complement is the other part with e
  have key : ∀ P Q R T : Nat, P < 2 ^ m → R < 2 ^ m → (∀ i, (Q.testBit i = (decide (i < m) && !P.testBit i && !decide (e = i)))) → (∀ i, (T.testBit i = (decide (i < m) && !R.testBit i && !decide (e = i)))) → P.testBit e = false → R.testBit e = false →
      (rk m B P + rk m B (R ||| 2 ^ e) + rk m B Q + rk m B (T ||| 2 ^ e) ≤ 2 * rk m B (2 ^ m - 1) + 1) → P &&& R = 0 ∨ Q &&& T = 0 := by
    intro P Q R T hP hR hQ hT nP nR hsum
    rcases Classical.em (P &&& R = 0 ∨ Q &&& T = 0) with q | q
    · exact q
    exfalso
    have q1 : P &&& R ≠ 0 := fun z => q (.inl z)
    have q2 : Q &&& T ≠ 0 := fun z => q (.inr z)
    have s1 := h.rk_sub P (R ||| 2 ^ e)
    have s2 := h.rk_sub Q (T ||| 2 ^ e)
    have hQe : Q.testBit e = false := by rw [hQ]; simp
    have hTe : T.testBit e = false := by rw [hT]; simp
    have a1 : P &&& (R ||| 2 ^ e) = P &&& R := Nat.eq_of_testBit_eq fun i => by
      rw [Nat.testBit_and, Nat.testBit_or, Nat.testBit_and, testBit_pow]
      by_cases c : e = i
      · subst c; simp [nP]
      · simp [c]
    have a2 : Q &&& (T ||| 2 ^ e) = Q &&& T := Nat.eq_of_testBit_eq fun i => by
      rw [Nat.testBit_and, Nat.testBit_or, Nat.testBit_and, testBit_pow]
      by_cases c : e = i
      · subst c; simp [hQe]
      · simp [c]
    have lPR : P &&& R < 2 ^ m := (inc_and_l P R).lt hP
    have lQ : Q < 2 ^ m := lt_of_bits fun i hi => by rw [hQ]; simp; omega
    have lQT : Q &&& T < 2 ^ m := (inc_and_l Q T).lt lQ
    have b1 : cpl m (P &&& R) = Q ||| (T ||| 2 ^ e) := Nat.eq_of_testBit_eq fun i => by
      rw [cpl_bit, Nat.testBit_and, Nat.testBit_or, Nat.testBit_or, hQ, hT, testBit_pow]
      by_cases c : e = i
      · subst c; simp [he, nP]
      · cases P.testBit i <;> cases R.testBit i <;> simp [c]
    have b2 : cpl m (Q &&& T) = P ||| (R ||| 2 ^ e) := Nat.eq_of_testBit_eq fun i => by
      rw [cpl_bit, Nat.testBit_and, Nat.testBit_or, Nat.testBit_or, hQ, hT, testBit_pow]
      by_cases c : e = i
      · subst c; simp [he]
      · rcases Nat.lt_or_ge i m with z | z
        · cases P.testBit i <;> cases R.testBit i <;> simp [c, z]
        · rw [bit_ge hP z, bit_ge hR z]; simp [c, show ¬ i < m by omega]
    have nz : ∀ Z : Nat, Z.testBit e = true → Z ≠ 0 := fun Z hZ z => by rw [z] at hZ; simp at hZ
    have c1 := hc _ lPR q1 (by rw [b1]; exact nz _ (by rw [Nat.testBit_or, Nat.testBit_or, testBit_pow]; simp))
    have c2 := hc _ lQT q2 (by rw [b2]; exact nz _ (by rw [Nat.testBit_or, Nat.testBit_or, testBit_pow]; simp))
    rw [b1] at c1
    rw [b2] at c2
    rw [a1] at s1
    rw [a2] at s2
    omega
  have bit : ∀ P i, (dif (cpl m P) (2 ^ e)).testBit i = (decide (i < m) && !P.testBit i && !decide (e = i)) := fun P i => by
    rw [testBit_dif, cpl_bit, testBit_pow]
  have inv : ∀ P : Nat, P < 2 ^ m → P.testBit e = false → ∀ i, P.testBit i = (decide (i < m) && !(dif (cpl m P) (2 ^ e)).testBit i && !decide (e = i)) := fun P hP nP i => by
    rw [bit]
    rcases Nat.lt_or_ge i m with z | z
    · by_cases c : e = i
      · subst c; simp [nP]
      · simp [c, z]
    · rw [bit_ge hP z]; simp; omega
  have nV : (dif (cpl m U) (2 ^ e)).testBit e = false := by rw [bit]; simp
  have lV : dif (cpl m U) (2 ^ e) < 2 ^ m := dif_lt (cpl_lt _ _)
  have k1 := key X _ U _ lX lU (bit X) (bit U) nX nU (by omega)
  have k2 := key X (dif (cpl m X) (2 ^ e)) (dif (cpl m U) (2 ^ e)) U lX lV (bit X) (inv U lU nU) nX nV (by omega)
  -- the four parts
  have dis : ∀ {P Q : Nat}, P &&& Q = 0 → ∀ i, P.testBit i = true → Q.testBit i = true → False := fun hz i p q => and_bit p q hz
  obtain ⟨x, hx⟩ := exists_bit x1
  obtain ⟨y, hy⟩ := exists_bit x2
  obtain ⟨u, hu⟩ := exists_bit u1
  obtain ⟨v, hv⟩ := exists_bit u2
  have par : ∀ P : Nat, ∀ i, i < m → e ≠ i → P.testBit i = true ∨ (dif (cpl m P) (2 ^ e)).testBit i = true := fun P i hi hne => by
    rw [bit]
    cases P.testBit i <;> simp [hi, hne]
  have ne : ∀ P : Nat, P.testBit e = false → ∀ i, P.testBit i = true → e ≠ i := fun P hP i hi c => by subst c; rw [hP] at hi; cases hi
  have nY : (dif (cpl m X) (2 ^ e)).testBit e = false := by rw [bit]; simp
  have lY : dif (cpl m X) (2 ^ e) < 2 ^ m := dif_lt (cpl_lt _ _)
  rcases k1 with k1 | k1 <;> rcases k2 with k2 | k2
  · rcases par U x (bit_lt lX hx) (ne X nX x hx) with q | q
    · exact dis k1 x hx q
    · exact dis k2 x hx q
  · rcases par X u (bit_lt lU hu) (ne U nU u hu) with q | q
    · exact dis k1 u q hu
    · exact dis k2 u q hu
  · rcases par X v (bit_lt lV hv) (ne _ nV v hv) with q | q
    · exact dis k2 v q hv
    · exact dis k1 v q hv
  · rcases par U y (bit_lt lY hy) (ne _ nY y hy) with q | q
    · exact dis k2 y hy q
    · exact dis k1 y hy q
end
end Go.SH

set_option linter.unusedSimpArgs false
set_option linter.unusedVariables false
namespace Go.SH
open Go Go.AX

def upS' (m s X : Nat) : Nat := mkset m fun i => !s.testBit i && X.testBit (ps i s)
theorem pk_full (m s : Nat) : pk m s (2 ^ m - 1) = 2 ^ ps m s - 1 := by
  have e0 : cpl m 0 = 2 ^ m - 1 := Nat.eq_of_testBit_eq fun i => by rw [cpl_bit, full_bit]; simp
  have e1 : pk m s 0 = 0 := Nat.eq_of_testBit_eq fun j => by
    rw [Nat.zero_testBit]
    cases q : (pk m s 0).testBit j
    · rfl
    · obtain ⟨i, _, _, h3, _⟩ := (pk_bit m s 0 j).1 q
      simp at h3
  have := pk_cpl (m := m) (g := s) (s := 0)
  rw [e0, e1] at this
  rw [this]
  exact Nat.eq_of_testBit_eq fun i => by rw [cpl_bit, full_bit]; simp
theorem pk_up {m s X : Nat} (hX : X < 2 ^ ps m s) : pk m s (upS' m s X) = X := set_ext (pk_lt _ _ _) hX fun j hj => by
  rw [Bool.eq_iff_iff, pk_bit]
  constructor
  · rintro ⟨i, h1, h2, h3, rfl⟩
    unfold upS' at h3
    rw [mkset_bit] at h3
    simpa [h1, h2] using h3
  · intro hb
    have : (pk m s (2 ^ m - 1)).testBit j = true := by rw [pk_full, full_bit]; simpa using hj
    obtain ⟨i, h1, h2, _, h4⟩ := (pk_bit m s _ j).1 this
    exact ⟨i, h1, h2, by unfold upS'; rw [mkset_bit, h4]; simp [h1, h2, hb], h4⟩
theorem up_inc (m s X : Nat) : Inc (upS' m s X) (cpl m s) := fun i hi => by
  unfold upS' at hi
  rw [mkset_bit] at hi
  rw [cpl_bit]
  simp only [Bool.and_eq_true] at hi
  simp [hi.1, hi.2.1]
section
variable {m : Nat} {B : List Nat} (h : Mat m B)
include h
theorem Mat.maxK_rk {T b : Nat} (hb : MaxK m B T b) : cnt m (b &&& T) = rk m B T := by
  obtain ⟨c, hc, e⟩ := h.rk_mem T
  have h1 := hb.2 c hc
  have h2 := le_rk (m := m) (s := T) hb.1
  rw [Nat.and_comm] at e
  rw [Nat.and_comm] at h2
  omega
theorem Mat.maxK_of {T b : Nat} (hb : b ∈ B) (h1 : rk m B T ≤ cnt m (b &&& T)) : MaxK m B T b := have _ := h; ⟨hb, fun b' hb' => by
  have h2 := le_rk (m := m) (s := T) hb'
  rw [Nat.and_comm] at h2
  omega⟩
theorem Mat.del_rk {s X : Nat} {K : List Nat} (hm : ∀ x, x ∈ K ↔ ∃ b, MaxK m B (cpl m s) b ∧ x = pk m s b) : rk (ps m s) K (pk m s X) = rk m B (dif X s) := by
  have eq1 : ∀ b, cnt (ps m s) (pk m s X &&& pk m s b) = cnt m (dif X s &&& b) := fun b => by
    rw [← pk_and, cnt_pk]
    congr 1
    exact Nat.eq_of_testBit_eq fun i => by
      rw [testBit_dif, Nat.testBit_and, Nat.testBit_and, testBit_dif]
      cases X.testBit i <;> cases b.testBit i <;> cases s.testBit i <;> rfl
  refine Nat.le_antisymm (rk_le.2 fun x hx => ?_) ?_
  · obtain ⟨b, hb, rfl⟩ := (hm x).1 hx
    rw [eq1]
    exact le_rk hb.1
  · obtain ⟨I, i1, i2, i3⟩ := h.rk_ind (s := dif X s)
    have hI := h.ind_lt i1
    obtain ⟨J, j1, j2, j3, j4⟩ := h.extend (u := cpl m s) _ I (Nat.le_refl _) i1 fun i hi => by
      have := i2 i hi
      rw [testBit_dif] at this
      simp only [Bool.and_eq_true, Bool.not_eq_true'] at this
      rw [cpl_bit, this.2]; simp [bit_lt hI hi]
    obtain ⟨b, b1, b2⟩ := j1
    have hK := h.maxK_of (T := cpl m s) b1 (by rw [← j4]; exact cnt_le_of_inc (inc_and b2 j3))
    have := le_rk (m := ps m s) (s := pk m s X) ((hm _).2 ⟨b, hK, rfl⟩)
    rw [eq1] at this
    rw [← i3]
    exact Nat.le_trans (cnt_le_of_inc (inc_and i2 (j2.trans b2))) this
theorem Mat.con_rk {s X : Nat} {K : List Nat} (hX : X < 2 ^ m) (hs : s < 2 ^ m) (hm : ∀ x, x ∈ K ↔ ∃ b, MaxK m B s b ∧ x = pk m s b) : rk (ps m s) K (pk m s X) + rk m B s = rk m B (X ||| s) := by
  have hmono := h.rk_mono (inc_or_r X s)
  have eq1 : ∀ b, cnt (ps m s) (pk m s X &&& pk m s b) = cnt m (dif (X &&& b) s) := fun b => by rw [← pk_and, cnt_pk]
  have eq2 : ∀ b, cnt m ((X ||| s) &&& b) = cnt m (b &&& s) + cnt m (dif (X &&& b) s) := fun b => by
    rw [cnt_split m ((X ||| s) &&& b) s]
    congr 2
    · exact Nat.eq_of_testBit_eq fun i => by
        rw [Nat.testBit_and, Nat.testBit_and, Nat.testBit_or, Nat.testBit_and]
        cases X.testBit i <;> cases b.testBit i <;> cases s.testBit i <;> rfl
    · exact Nat.eq_of_testBit_eq fun i => by
        rw [testBit_dif, testBit_dif, Nat.testBit_and, Nat.testBit_or, Nat.testBit_and]
        cases X.testBit i <;> cases b.testBit i <;> cases s.testBit i <;> rfl
  have up : rk (ps m s) K (pk m s X) ≤ rk m B (X ||| s) - rk m B s := rk_le.2 fun x hx => by
    obtain ⟨b, hb, rfl⟩ := (hm x).1 hx
    have h1 := h.maxK_rk hb
    have h2 := le_rk (m := m) (s := X ||| s) hb.1
    rw [eq2] at h2
    rw [eq1]
    omega
  obtain ⟨I, i1, i2, i3⟩ := h.rk_ind (s := s)
  obtain ⟨J, j1, j2, j3, j4⟩ := h.extend (u := X ||| s) _ I (Nat.le_refl _) i1 (i2.trans (inc_or_r _ _))
  have c1 := cnt_split m J s
  have c2 := h.ind_le (j1.mono (inc_and_l J s)) (inc_and_r J s)
  obtain ⟨b, b1, b2⟩ := j1
  have hK := h.maxK_of (T := s) b1 (by rw [← i3]; exact cnt_le_of_inc (inc_and (j2.trans b2) i2))
  have h3 := le_rk (m := ps m s) (s := pk m s X) ((hm _).2 ⟨b, hK, rfl⟩)
  rw [eq1] at h3
  have h4 : cnt m (dif J s) ≤ cnt m (dif (X &&& b) s) := cnt_le_of_inc fun i hi => by
    rw [testBit_dif] at hi ⊢
    simp only [Bool.and_eq_true, Bool.not_eq_true'] at hi
    have q1 := j3 i hi.1
    rw [Nat.testBit_or, hi.2, Bool.or_false] at q1
    rw [Nat.testBit_and, q1, b2 i hi.1, hi.2]; rfl
  omega
end

/-- The component of an element. -/
structure IsComp (m : Nat) (B : List Nat) (v s : Nat) : Prop where
  lt : s < 2 ^ m
  mem : s.testBit v = true
  sep : Sep m B s
  least : ∀ S, S < 2 ^ m → Sep m B S → S.testBit v = true → Inc s S
end Go.SH
