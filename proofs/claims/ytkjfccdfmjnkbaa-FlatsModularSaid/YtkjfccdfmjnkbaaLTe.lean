/-
  CRAPO's number of a rank function: it is nought just if the matroid falls apart. The law FlatsBeta: the characteristic polynomial's slope at one, and CRAPO's number.  Conditions: none.
-/
import Derived.Test.YtkjfccdfmjnkbaaLTb
import Derived.Test.YtkjfccdfmjnkbaaLRk
import Derived.Test.YtkjfccdfmjnkbaaLWa
import Derived.Test.YtkjfccdfmjnkbaaLI

set_option linter.unusedSimpArgs false
set_option linter.unusedVariables false
namespace Go.SH
open Go Go.AX

/-- TUTTE. -/
theorem RkF.tutte {m : Nat} {r : Nat → Nat} (h : RkF r) (hc : ∀ S, S < 2 ^ m → S ≠ 0 → cpl m S ≠ 0 → r (2 ^ m - 1) < r S + r (cpl m S)) {e X U : Nat} (he : e < m) (hm : 2 ≤ m)
    (hX : Inc X (cpl m (2 ^ e))) (hU : Inc U (cpl m (2 ^ e))) (x1 : X ≠ 0) (x2 : dif (cpl m X) (2 ^ e) ≠ 0) (u1 : U ≠ 0) (u2 : dif (cpl m U) (2 ^ e) ≠ 0)
    (hd : r X + r (dif (cpl m X) (2 ^ e)) ≤ r (dif (2 ^ m - 1) (2 ^ e)))
    (hk : r (U ||| 2 ^ e) + r (dif (cpl m U) (2 ^ e) ||| 2 ^ e) ≤ r (2 ^ m - 1) + r (2 ^ e)) : False := by
  have nX : X.testBit e = false := by
    cases q : X.testBit e
    · rfl
    · have := hX e q; rw [cpl_bit, testBit_pow] at this; simp at this
  have nU : U.testBit e = false := by
    cases q : U.testBit e
    · rfl
    · have := hU e q; rw [cpl_bit, testBit_pow] at this; simp at this
  have lX : X < 2 ^ m := hX.lt (cpl_lt _ _)
  have lU : U < 2 ^ m := hU.lt (cpl_lt _ _)
  have hdm : r (dif (2 ^ m - 1) (2 ^ e)) ≤ r (2 ^ m - 1) := h.mono _ _ (inc_dif _ _)
  have he1 : r (2 ^ e) ≤ 1 := by
    have := h.step 0 e
    rw [Nat.zero_or, h.zero] at this
    omega
  -- a part P of X and U: its complement is the other part with e
  have key : ∀ P Q R T : Nat, P < 2 ^ m → R < 2 ^ m → (∀ i, (Q.testBit i = (decide (i < m) && !P.testBit i && !decide (e = i)))) → (∀ i, (T.testBit i = (decide (i < m) && !R.testBit i && !decide (e = i)))) → P.testBit e = false → R.testBit e = false →
      (r P + r (R ||| 2 ^ e) + r Q + r (T ||| 2 ^ e) ≤ 2 * r (2 ^ m - 1) + 1) → P &&& R = 0 ∨ Q &&& T = 0 := by
    intro P Q R T hP hR hQ hT nP nR hsum
    rcases Classical.em (P &&& R = 0 ∨ Q &&& T = 0) with q | q
    · exact q
    exfalso
    have q1 : P &&& R ≠ 0 := fun z => q (.inl z)
    have q2 : Q &&& T ≠ 0 := fun z => q (.inr z)
    have s1 := h.sub P (R ||| 2 ^ e)
    have s2 := h.sub Q (T ||| 2 ^ e)
    have hQe : Q.testBit e = false := by rw [hQ]; simp
    have hTe : T.testBit e = false := by rw [hT]; simp
    have a1 : P &&& (R ||| 2 ^ e) = P &&& R := Nat.eq_of_testBit_eq fun i => by
      rw [Nat.testBit_and, Nat.testBit_or, Nat.testBit_and, testBit_pow]
      by_cases c : e = i
      · subst c; simp [nP]
      · simp [c]
    have a2 : Q &&& (T ||| 2 ^ e) = Q &&& T := Nat.eq_of_testBit_eq fun i => by
      rw [Nat.testBit_and, Nat.testBit_or, Nat.testBit_and, testBit_pow]
      by_cases c : e = i
      · subst c; simp [hQe]
      · simp [c]
    have lPR : P &&& R < 2 ^ m := (inc_and_l P R).lt hP
    have lQ : Q < 2 ^ m := lt_of_bits fun i hi => by rw [hQ]; simp; omega
    have lQT : Q &&& T < 2 ^ m := (inc_and_l Q T).lt lQ
    have b1 : cpl m (P &&& R) = Q ||| (T ||| 2 ^ e) := Nat.eq_of_testBit_eq fun i => by
      rw [cpl_bit, Nat.testBit_and, Nat.testBit_or, Nat.testBit_or, hQ, hT, testBit_pow]
      by_cases c : e = i
      · subst c; simp [he, nP]
      · cases P.testBit i <;> cases R.testBit i <;> simp [c]
    have b2 : cpl m (Q &&& T) = P ||| (R ||| 2 ^ e) := Nat.eq_of_testBit_eq fun i => by
      rw [cpl_bit, Nat.testBit_and, Nat.testBit_or, Nat.testBit_or, hQ, hT, testBit_pow]
      by_cases c : e = i
      · subst c; simp [he]
      · rcases Nat.lt_or_ge i m with z | z
        · cases P.testBit i <;> cases R.testBit i <;> simp [c, z]
        · rw [bit_ge hP z, bit_ge hR z]; simp [c, show ¬ i < m by omega]
    have nz : ∀ Z : Nat, Z.testBit e = true → Z ≠ 0 := fun Z hZ z => by rw [z] at hZ; simp at hZ
    have c1 := hc _ lPR q1 (by rw [b1]; exact nz _ (by rw [Nat.testBit_or, Nat.testBit_or, testBit_pow]; simp))
    have c2 := hc _ lQT q2 (by rw [b2]; exact nz _ (by rw [Nat.testBit_or, Nat.testBit_or, testBit_pow]; simp))
    rw [b1] at c1
    rw [b2] at c2
    rw [a1] at s1
    rw [a2] at s2
    omega
  have bit : ∀ P i, (dif (cpl m P) (2 ^ e)).testBit i = (decide (i < m) && !P.testBit i && !decide (e = i)) := fun P i => by
    rw [testBit_dif, cpl_bit, testBit_pow]
  have inv : ∀ P : Nat, P < 2 ^ m → P.testBit e = false → ∀ i, P.testBit i = (decide (i < m) && !(dif (cpl m P) (2 ^ e)).testBit i && !decide (e = i)) := fun P hP nP i => by
    rw [bit]
    rcases Nat.lt_or_ge i m with z | z
    · by_cases c : e = i
      · subst c; simp [nP]
      · simp [c, z]
    · rw [bit_ge hP z]; simp; omega
  have nV : (dif (cpl m U) (2 ^ e)).testBit e = false := by rw [bit]; simp
  have lV : dif (cpl m U) (2 ^ e) < 2 ^ m := dif_lt (cpl_lt _ _)
  have k1 := key X _ U _ lX lU (bit X) (bit U) nX nU (by omega)
  have k2 := key X (dif (cpl m X) (2 ^ e)) (dif (cpl m U) (2 ^ e)) U lX lV (bit X) (inv U lU nU) nX nV (by omega)
  -- the four parts
  have dis : ∀ {P Q : Nat}, P &&& Q = 0 → ∀ i, P.testBit i = true → Q.testBit i = true → False := fun hz i p q => and_bit p q hz
  obtain ⟨x, hx⟩ := exists_bit x1
  obtain ⟨y, hy⟩ := exists_bit x2
  obtain ⟨u, hu⟩ := exists_bit u1
  obtain ⟨v, hv⟩ := exists_bit u2
  have par : ∀ P : Nat, ∀ i, i < m → e ≠ i → P.testBit i = true ∨ (dif (cpl m P) (2 ^ e)).testBit i = true := fun P i hi hne => by
    rw [bit]
    cases P.testBit i <;> simp [hi, hne]
  have ne : ∀ P : Nat, P.testBit e = false → ∀ i, P.testBit i = true → e ≠ i := fun P hP i hi c => by subst c; rw [hP] at hi; cases hi
  have nY : (dif (cpl m X) (2 ^ e)).testBit e = false := by rw [bit]; simp
  have lY : dif (cpl m X) (2 ^ e) < 2 ^ m := dif_lt (cpl_lt _ _)
  rcases k1 with k1 | k1 <;> rcases k2 with k2 | k2
  · rcases par U x (bit_lt lX hx) (ne X nX x hx) with q | q
    · exact dis k1 x hx q
    · exact dis k2 x hx q
  · rcases par X u (bit_lt lU hu) (ne U nU u hu) with q | q
    · exact dis k1 u q hu
    · exact dis k2 u q hu
  · rcases par X v (bit_lt lV hv) (ne _ nV v hv) with q | q
    · exact dis k2 v q hv
    · exact dis k1 v q hv
  · rcases par U y (bit_lt lY hy) (ne _ nY y hy) with q | q
    · exact dis k2 y hy q
    · exact dis k1 y hy q

theorem sg_turn {m e s : Nat} (he : e < m) (hs : s < 2 ^ m) : sg (cnt m (s ^^^ 2 ^ e)) = - sg (cnt m s) := by
  cases q : s.testBit e with
  | true =>
    have e1 : s ^^^ 2 ^ e = dif s (2 ^ e) := Nat.eq_of_testBit_eq fun i => by
      rw [Nat.testBit_xor, testBit_dif, testBit_pow]
      by_cases c : e = i
      · subst c; simp [q]
      · simp [c]
    rw [e1, cnt_dif hs q, sg_succ]; omega
  | false =>
    have e1 : s ^^^ 2 ^ e = s ||| 2 ^ e := Nat.eq_of_testBit_eq fun i => by
      rw [Nat.testBit_xor, Nat.testBit_or, testBit_pow]
      by_cases c : e = i
      · subst c; simp [q]
      · simp [c]
    rw [e1, cnt_add he q, sg_succ]
theorem sg_all {m : Nat} (h0 : 0 < m) : sumN (2 ^ m) (fun s => sg (cnt m s)) = 0 := sumN_turned h0 fun s hs => sg_turn h0 hs
/-- What the ranks come to, with signs. -/
def bet (m : Nat) (r : Nat → Nat) : Int := sumN (2 ^ m) fun s => sg (cnt m s) * (r s : Nat)
/-- It does not fall apart. -/
def Conn (m : Nat) (r : Nat → Nat) : Prop := ∀ S, S < 2 ^ m → S ≠ 0 → cpl m S ≠ 0 → r (2 ^ m - 1) < r S + r (cpl m S)
theorem RkF.apart {m : Nat} {r : Nat → Nat} (h : RkF r) (hc : ¬ Conn m r) : bet m r = 0 := by
  obtain ⟨S, hS, s0, s1, hle⟩ : ∃ S, S < 2 ^ m ∧ S ≠ 0 ∧ cpl m S ≠ 0 ∧ r S + r (cpl m S) ≤ r (2 ^ m - 1) := by
    rcases Classical.em (∃ S, S < 2 ^ m ∧ S ≠ 0 ∧ cpl m S ≠ 0 ∧ r S + r (cpl m S) ≤ r (2 ^ m - 1)) with q | q
    · exact q
    · exfalso
      refine hc fun S h1 h2 h3 => ?_
      rcases Nat.lt_or_ge (r (2 ^ m - 1)) (r S + r (cpl m S)) with c | c
      · exact c
      · exact absurd ⟨S, h1, h2, h3, c⟩ q
  have part : ∀ A, A < 2 ^ m → r A = r (A &&& S) + r (A &&& cpl m S) := fun A hA => by
    have u1 := h.sub A S
    have u2 := h.sub (A ||| S) (cpl m S)
    have u3 := h.sub (A &&& S) (A &&& cpl m S)
    have e1 : (A ||| S) ||| cpl m S = 2 ^ m - 1 := Nat.eq_of_testBit_eq fun k => by
      rw [Nat.testBit_or, Nat.testBit_or, cpl_bit, full_bit]
      cases q1 : A.testBit k with
      | true => simp [bit_lt hA q1]
      | false =>
        cases q2 : S.testBit k with
        | true => simp [bit_lt hS q2]
        | false => simp
    have e2 : (A ||| S) &&& cpl m S = A &&& cpl m S := Nat.eq_of_testBit_eq fun k => by
      rw [Nat.testBit_and, Nat.testBit_or, Nat.testBit_and, cpl_bit]
      cases A.testBit k <;> cases S.testBit k <;> simp
    have e3 : A &&& S ||| A &&& cpl m S = A := Nat.eq_of_testBit_eq fun k => by
      rw [Nat.testBit_or, Nat.testBit_and, Nat.testBit_and, cpl_bit]
      cases q1 : A.testBit k with
      | true => cases S.testBit k <;> simp [bit_lt hA q1]
      | false => rfl
    have e4 : (A &&& S) &&& (A &&& cpl m S) = 0 := Nat.eq_of_testBit_eq fun k => by
      rw [Nat.testBit_and, Nat.testBit_and, Nat.testBit_and, cpl_bit, Nat.zero_testBit]
      cases A.testBit k <;> cases S.testBit k <;> simp
    rw [e1, e2] at u2
    rw [e3, e4, h.zero] at u3
    omega
  have half : ∀ T : Nat, T < 2 ^ m → (∃ e, e < m ∧ T.testBit e = false) → sumN (2 ^ m) (fun s => sg (cnt m s) * (r (s &&& T) : Nat)) = 0 := fun T hT ⟨e, he, hTe⟩ => sumN_turned he fun s hs => by
    have e1 : (s ^^^ 2 ^ e) &&& T = s &&& T := Nat.eq_of_testBit_eq fun i => by
      rw [Nat.testBit_and, Nat.testBit_xor, Nat.testBit_and, testBit_pow]
      by_cases c : e = i
      · subst c; simp [hTe]
      · simp [c]
    rw [e1, sg_turn he hs, Int.neg_mul]
  have hS2 := half S hS (by
    obtain ⟨i, hi⟩ := exists_bit s1
    rw [cpl_bit] at hi
    simp only [Bool.and_eq_true, decide_eq_true_eq, Bool.not_eq_true'] at hi
    exact ⟨i, hi⟩)
  have hC2 := half (cpl m S) (cpl_lt _ _) (by
    obtain ⟨i, hi⟩ := exists_bit s0
    exact ⟨i, bit_lt hS hi, by rw [cpl_bit, hi]; simp⟩)
  unfold bet
  rw [sumN_congr (h := fun s => sg (cnt m s) * (r (s &&& S) : Nat) + sg (cnt m s) * (r (s &&& cpl m S) : Nat)) fun s hs => by
    rw [part s hs, Int.natCast_add, Int.mul_add], sumN_add, hS2, hC2]; rfl
theorem add_or {m s : Nat} (hs : s < 2 ^ m) : 2 ^ m + s = s ||| 2 ^ m := Nat.eq_of_testBit_eq fun i => by
  rw [add_bit hs, Nat.testBit_or, testBit_pow]
  by_cases c : m = i
  · subst c; simp
  · have : ¬ i = m := fun e => c e.symm
    simp [c, this]
/-- CRAPO: taking an element off and over. -/
theorem bet_step {m : Nat} {r : Nat → Nat} (h : RkF r) (h0 : 0 < m) (h1 : r (2 ^ m) = 1) : bet (m + 1) r = bet m r - bet m (fun s => r (s ||| 2 ^ m) - 1) := by
  unfold bet
  rw [sumN_two]
  have e1 : sumN (2 ^ m) (fun s => sg (cnt (m + 1) s) * (r s : Nat)) = sumN (2 ^ m) (fun s => sg (cnt m s) * (r s : Nat)) := sumN_congr fun s hs => by
    simp only [cnt, bit_ge hs (Nat.le_refl m)]; simp
  have e2 : sumN (2 ^ m) (fun s => sg (cnt (m + 1) (2 ^ m + s)) * (r (2 ^ m + s) : Nat)) = - sumN (2 ^ m) (fun s => sg (cnt m s) * ((r (s ||| 2 ^ m) - 1 : Nat) : Int)) + - sumN (2 ^ m) (fun s => sg (cnt m s)) := by
    rw [← sumN_neg, ← sumN_neg, ← sumN_add]
    refine sumN_congr fun s hs => ?_
    have hpos : 1 ≤ r (s ||| 2 ^ m) := by rw [← h1]; exact h.mono _ _ (inc_or_r _ _)
    have hc : cnt (m + 1) (2 ^ m + s) = cnt m s + 1 := by
      simp only [cnt]
      rw [show (2 ^ m + s).testBit m = true by rw [add_bit hs]; simp]
      have : cnt m (2 ^ m + s) = cnt m s := cnt_congr fun x hx => by
        rw [add_bit hs]
        have : decide (x = m) = false := by simp; omega
        rw [this, Bool.false_or]
      rw [this]; simp
    rw [hc, sg_succ, add_or hs]
    have : ((r (s ||| 2 ^ m) : Nat) : Int) = ((r (s ||| 2 ^ m) - 1 : Nat) : Int) + 1 := by omega
    rw [this, Int.mul_add, Int.neg_mul, Int.mul_one]
  rw [e1, e2, sg_all h0]
  show _ = sumN (2 ^ m) (fun s => sg (cnt m s) * (r s : Nat)) - sumN (2 ^ m) (fun s => sg (cnt m s) * ((r (s ||| 2 ^ m) - 1 : Nat) : Int))
  omega
theorem RkF.beta : ∀ (m : Nat) (r : Nat → Nat), RkF r → 0 ≤ sg (r (2 ^ m - 1)) * bet m r ∧ (1 ≤ m → (m = 1 → 1 ≤ r (2 ^ m - 1)) → Conn m r → 1 ≤ sg (r (2 ^ m - 1)) * bet m r)
  | 0, r, h => by
    have e : bet 0 r = 0 := by
      unfold bet
      simp [sumN, h.zero]
    rw [e]
    exact ⟨by omega, fun q => by omega⟩
  | m + 1, r, h => by
    rcases Nat.eq_zero_or_pos m with c | c
    · subst c
      have h1 := h.step 0 0
      rw [h.zero, Nat.zero_or] at h1
      have e : bet 1 r = - ((r 1 : Nat) : Int) := by
        unfold bet
        simp [sumN, h.zero, cnt, sg]
      have e2 : 2 ^ (0 + 1) - 1 = 1 := rfl
      have e3 : (2 : Nat) ^ 0 = 1 := rfl
      rw [e3] at h1
      rw [e2]
      show 0 ≤ _ * bet 1 r ∧ (_ → _ → _ → 1 ≤ _ * bet 1 r)
      rw [e]
      have hr : r 1 = 0 ∨ r 1 = 1 := by omega
      rcases hr with hr | hr
      · rw [hr]; exact ⟨by decide, fun _ q => by have := q rfl; omega⟩
      · rw [hr]; exact ⟨by decide, fun _ _ _ => by decide⟩
    rcases Classical.em (Conn (m + 1) r) with hc | hc
    rotate_left
    · rw [h.apart hc]
      exact ⟨by omega, fun _ _ q => absurd q hc⟩
    have hpm : 0 < 2 ^ m := Nat.pow_pos (by omega)
    have hp2 : 2 ^ (m + 1) = 2 ^ m + 2 ^ m := by rw [Nat.pow_succ]; omega
    have hem : 2 ^ m < 2 ^ (m + 1) := by omega
    have hfull : 2 ^ m - 1 ||| 2 ^ m = 2 ^ (m + 1) - 1 := Nat.eq_of_testBit_eq fun i => by
      rw [Nat.testBit_or, full_bit, full_bit, testBit_pow, Bool.eq_iff_iff, Bool.or_eq_true, decide_eq_true_eq, decide_eq_true_eq, decide_eq_true_eq]
      omega
    have hce : cpl (m + 1) (2 ^ m) = 2 ^ m - 1 := Nat.eq_of_testBit_eq fun i => by
      rw [cpl_bit, full_bit, testBit_pow, Bool.eq_iff_iff]
      simp only [Bool.and_eq_true, Bool.not_eq_true', decide_eq_true_eq, decide_eq_false_iff_not]
      omega
    have hm1 : 2 ^ m - 1 ≠ 0 := by
      have : 2 ^ 1 ≤ 2 ^ m := Nat.pow_le_pow_right (by omega) c
      omega
    have hconn := hc (2 ^ m) hem (by omega) (by rw [hce]; exact hm1)
    rw [hce] at hconn
    have hst := h.step 0 m
    rw [h.zero, Nat.zero_or] at hst
    have hmo := h.mono (2 ^ m - 1) (2 ^ (m + 1) - 1) (by rw [← hfull]; exact inc_or_l _ _)
    have h1 : r (2 ^ m) = 1 := by omega
    have hfe : r (2 ^ (m + 1) - 1) = r (2 ^ m - 1) := by omega
    have hpos : 1 ≤ r (2 ^ (m + 1) - 1) := by
      have := h.mono (2 ^ m) (2 ^ (m + 1) - 1) (by rw [← hfull]; exact inc_or_r _ _)
      omega
    have h' := h.contract h1
    obtain ⟨a1, a2⟩ := RkF.beta m r h
    obtain ⟨b1, b2⟩ := RkF.beta m _ h'
    simp only [hfull] at b1 b2
    have hsum : sg (r (2 ^ (m + 1) - 1)) * bet (m + 1) r = sg (r (2 ^ m - 1)) * bet m r + sg (r (2 ^ (m + 1) - 1) - 1) * bet m (fun s => r (s ||| 2 ^ m) - 1) := by
      rw [bet_step h c h1, Int.mul_sub, hfe]
      have hs := sg_succ (r (2 ^ m - 1) - 1)
      rw [show r (2 ^ m - 1) - 1 + 1 = r (2 ^ m - 1) by omega] at hs
      rw [hs, Int.neg_mul, Int.neg_mul]
      omega
    rw [hsum]
    refine ⟨by omega, fun _ _ _ => ?_⟩
    rcases Classical.em (Conn m r) with q | q
    · have := a2 c (fun _ => by omega) q
      omega
    · have d : m ≠ 1 := fun d => q (by
        subst d
        intro S s1 s2 s3
        have : S = 1 := by omega
        subst this
        exact absurd (by decide) s3)
      have := b2 c (fun z => absurd z d) fun S s1 s2 s3 => ?_
      · omega
      · skip
        rcases Nat.lt_or_ge ((fun s => r (s ||| 2 ^ m) - 1) (2 ^ m - 1)) ((fun s => r (s ||| 2 ^ m) - 1) S + (fun s => r (s ||| 2 ^ m) - 1) (cpl m S)) with z | z
        · exact z
        exfalso
        obtain ⟨X, hX, x0, x1, hle⟩ : ∃ S, S < 2 ^ m ∧ S ≠ 0 ∧ cpl m S ≠ 0 ∧ r S + r (cpl m S) ≤ r (2 ^ m - 1) := by
          rcases Classical.em (∃ S, S < 2 ^ m ∧ S ≠ 0 ∧ cpl m S ≠ 0 ∧ r S + r (cpl m S) ≤ r (2 ^ m - 1)) with q' | q'
          · exact q'
          · exfalso
            refine q fun S h1 h2 h3 => ?_
            rcases Nat.lt_or_ge (r (2 ^ m - 1)) (r S + r (cpl m S)) with w | w
            · exact w
            · exact absurd ⟨S, h1, h2, h3, w⟩ q'
        have low : ∀ A, A < 2 ^ m → Inc A (cpl (m + 1) (2 ^ m)) := fun A hA i hi => by
          rw [hce, full_bit]
          simpa using bit_lt hA hi
        have cp : ∀ A, A < 2 ^ m → dif (cpl (m + 1) A) (2 ^ m) = cpl m A := fun A hA => Nat.eq_of_testBit_eq fun i => by
          rw [testBit_dif, cpl_bit, cpl_bit, testBit_pow, Bool.eq_iff_iff]
          simp only [Bool.and_eq_true, Bool.not_eq_true', decide_eq_true_eq, decide_eq_false_iff_not]
          exact ⟨fun ⟨⟨g1, g2⟩, g3⟩ => ⟨by omega, g2⟩, fun ⟨g1, g2⟩ => ⟨⟨by omega, g2⟩, by omega⟩⟩
        have fd : dif (2 ^ (m + 1) - 1) (2 ^ m) = 2 ^ m - 1 := hce
        have p1 : 1 ≤ r (S ||| 2 ^ m) := by rw [← h1]; exact h.mono _ _ (inc_or_r _ _)
        have p2 : 1 ≤ r (cpl m S ||| 2 ^ m) := by rw [← h1]; exact h.mono _ _ (inc_or_r _ _)
        have p3 : 1 ≤ r (2 ^ m - 1 ||| 2 ^ m) := by rw [← h1]; exact h.mono _ _ (inc_or_r _ _)
        simp only at z
        rw [hfull] at z p3
        exact h.tutte hc (e := m) (X := X) (U := S) (by omega) (by omega) (low X hX) (low S s1) x0 (by rw [cp X hX]; exact x1) s2 (by rw [cp S s1]; exact s3) (by rw [cp X hX, fd]; exact hle) (by rw [cp S s1]; omega)
end Go.SH

set_option linter.unusedSimpArgs false
set_option linter.unusedVariables false
namespace Go.SH
open Go Go.AX

/-! ### the characteristic polynomial -/
def chr (m : Nat) (B : List Nat) : List Int :=
  if (flats m B).getD 0 0 = 0 then (List.range (rk m B (2 ^ m - 1) + 1)).map fun j => sumN (flats m B).length fun i => if rk m B (2 ^ m - 1) - rk m B ((flats m B).getD i 0) = j then mob (flats m B) i else 0
  else List.replicate (rk m B (2 ^ m - 1) + 1) 0
theorem chr_len (m : Nat) (B : List Nat) : (chr m B).length = rk m B (2 ^ m - 1) + 1 := by
  unfold chr; split <;> simp
theorem rank_ok {m : Nat} (B : List Nat) (h8 : m ≤ 8) (l0 : Int) (l2 : List Int) : flats_lattice_rank l0 l2 (cs (rkL m B)) = some ((rk m B (2 ^ m - 1) : Nat) : Int) := by
  have h256 := pow_le8 h8
  have hpos : 0 < 2 ^ m := Nat.pow_pos (by omega)
  unfold flats_lattice_rank
  simp only [cs_len, rkL_len]
  have e1 : (((2 ^ m : Nat) : Int) - 1).toNat = 2 ^ m - 1 := by omega
  rw [chk_pos (by omega), e1, cs_get, rkL_get m B (by omega)]
section
variable {m : Nat} {B : List Nat} (h : Mat m B)
include h
theorem Mat.flats_ne : 0 < (flats m B).length := by
  have hpos : 0 < 2 ^ m := Nat.pow_pos (by omega)
  have : 2 ^ m - 1 ∈ flats m B := mem_flats.2 ⟨by omega, fun i hi hb => by
    rw [Nat.testBit_two_pow_sub_one] at hb; simp [hi] at hb⟩
  have _ := h
  exact List.length_pos_of_mem this
theorem Mat.flat0 : (flats m B).getD 0 0 = 0 ↔ Flat m B 0 := by
  have hF : Fam m (flats m B) := filter_fam h.m8 _
  have hpos : 0 < 2 ^ m := Nat.pow_pos (by omega)
  constructor
  · intro e
    have := (mem_flats.1 (mem_getD.2 ⟨0, h.flats_ne, rfl⟩)).2
    rwa [e] at this
  · intro hz
    obtain ⟨k, k1, k2⟩ := mem_getD.1 (mem_flats.2 ⟨hpos, hz⟩)
    rcases Nat.eq_zero_or_pos k with c | c
    · subst c; exact k2
    · have := hF.rise 0 k c k1; omega
theorem Mat.rk_full {s : Nat} (hs : s < 2 ^ m) : rk m B s ≤ rk m B (2 ^ m - 1) := h.rk_mono fun i hi => by
  rw [Nat.testBit_two_pow_sub_one]; simpa using bit_lt hs hi
theorem Mat.Char_ok : flats_Characteristic m (cs B) = some (chr m B, 0) := by
  have h8 := h.m8
  have hF : Fam m (flats m B) := filter_fam h8 _
  have hsub : (flats m B).Sublist (List.range (2 ^ m)) := List.filter_sublist
  have hlen := hF.len
  have hne := h.flats_ne
  have hR := h.rk_size (2 ^ m - 1)
  have hR8 := cnt_le m (2 ^ m - 1)
  refine Gets.eq ?_
  unfold flats_Characteristic
  refine gBindE (flats_of_ok h) (gIte (fun q => absurd rfl q) fun _ => ?_)
  refine gBindE (rank_ok B h8 _ _) (gChk (by omega) (gChk (by simp; omega) ?_))
  have eR : (((rk m B (2 ^ m - 1) : Nat) : Int) + 1).toNat = rk m B (2 ^ m - 1) + 1 := by omega
  simp only [cs_get, eR]
  refine gIte (fun q => gSome ?_) fun q => ?_
  · unfold chr; rw [if_neg (by omega)]
  · have h0 : (flats m B).getD 0 0 = 0 := by omega
    refine gBindE (mobius_ok hF hsub _ _) ?_
    refine gBind (R := fun o => o = chr m B) (gFor (flats m B).length (fun k (x : List Int × Int) => x.2 = (k : Int) ∧ x.1.length = rk m B (2 ^ m - 1) + 1 ∧ ∀ j, j < rk m B (2 ^ m - 1) + 1 → x.1.getD j 0 = sumN k fun i => if rk m B (2 ^ m - 1) - rk m B ((flats m B).getD i 0) = j then mob (flats m B) i else 0) (Nat.zero_le _) ⟨rfl, by simp, fun j hj => by
      rw [List.getD_eq_getElem?_getD, List.getElem?_replicate]; simp [sumN, hj]⟩ ?_) fun o ho => gSome (by rw [ho])
    rintro k ⟨out, _⟩ hk ⟨rfl, i1, i2⟩
    simp only [mobL_len, cs_len, rkL_len, cs_get, toNat_nat] at i1 i2 ⊢
    refine gIte (fun h1 => gChk (by omega) ?_) fun h1 => gSome ?_
    · have hk' : k < (flats m B).length := by omega
      obtain ⟨f1, f2⟩ := mem_flats.1 (mem_getD.2 ⟨k, hk', rfl⟩)
      have hrf := h.rk_full f1
      rw [rank_ok B h8]
      simp only [Option.bind_some, rkL_get m B f1]
      have ej : (((rk m B (2 ^ m - 1) : Nat) : Int) - ((rk m B ((flats m B).getD k 0) : Nat) : Int)).toNat = rk m B (2 ^ m - 1) - rk m B ((flats m B).getD k 0) := by omega
      have hj : rk m B (2 ^ m - 1) - rk m B ((flats m B).getD k 0) < rk m B (2 ^ m - 1) + 1 := by omega
      rw [ej, i2 _ hj, mobL_get _ hk']
      have b1 := sumN_abs (n := k) (g := fun i => if rk m B (2 ^ m - 1) - rk m B ((flats m B).getD i 0) = rk m B (2 ^ m - 1) - rk m B ((flats m B).getD k 0) then mob (flats m B) i else 0) (c := 68719476736) fun i hi => by
        have := hF.mob_small hsub (i := i) (by omega)
        split <;> omega
      have b2 := hF.mob_small hsub hk'
      have b3 : (k : Int) * 68719476736 ≤ 256 * 68719476736 := Int.mul_le_mul_of_nonneg_right (by omega) (by omega)
      refine gChk ⟨by omega, by omega, by omega, by omega, by omega⟩ (gSome ⟨hk', by simp, by simp [i1], fun j hj2 => ?_⟩)
      rw [set_getD _ (by omega)]
      simp only [sumN]
      by_cases e : j = rk m B (2 ^ m - 1) - rk m B ((flats m B).getD k 0)
      · rw [if_pos e, if_pos e.symm, e]
      · rw [if_neg e, if_neg (Ne.symm e), i2 j hj2, Int.add_zero]
    · have e : k = (flats m B).length := by omega
      subst e
      refine list_ext_getD (by rw [i1, chr_len]) fun j hj => ?_
      rw [i1] at hj
      rw [i2 j hj]
      unfold chr
      rw [if_pos h0, List.getD_eq_getElem?_getD, List.getElem?_map, List.getElem?_range hj]
      rfl

/-! ### the sets, flat by flat -/
/-- What the sets come to whose closure is the i-th flat. -/
def nuA (i : Nat) : Int := sumN (2 ^ m) fun s => if IsCl m B s ((flats m B).getD i 0) then sg (cnt m s) else 0
omit h in
theorem all_sum {G : Nat} (hG : G < 2 ^ m) : sumN (2 ^ m) (fun s => if Inc s G then sg (cnt m s) else 0) = if G = 0 then 1 else 0 := by
  have hpos : 0 < 2 ^ m := Nat.pow_pos (by omega)
  rcases Nat.decEq G 0 with c | c
  · rw [if_neg c]
    obtain ⟨e, he⟩ := exists_bit c
    have hm := bit_lt hG he
    refine sumN_turned hm fun s hs => ?_
    have inc_iff : Inc (s ^^^ 2 ^ e) G ↔ Inc s G := by
      have hbit : ∀ i, (s ^^^ 2 ^ e).testBit i = (s.testBit i ^^ decide (e = i)) := fun i => by rw [Nat.testBit_xor, testBit_pow]
      constructor
      · intro k i hi
        by_cases q : e = i
        · subst q; exact he
        · exact k i (by rw [hbit, hi]; simp [q])
      · intro k i hi
        by_cases q : e = i
        · subst q; exact he
        · rw [hbit] at hi; exact k i (by simpa [q] using hi)
    by_cases q : Inc s G
    · rw [if_pos (inc_iff.2 q), if_pos q, sg_turn hm hs]
    · rw [if_neg fun x => q (inc_iff.1 x), if_neg q]; rfl
  · subst c
    rw [if_pos rfl, sumN_congr (h := fun s => if s = 0 then (1 : Int) else 0) fun s hs => ?_, sumN_single _ _ _ hpos]
    by_cases q : s = 0
    · subst q; rw [if_pos (Inc.refl 0), if_pos rfl, cnt_zero]; rfl
    · rw [if_neg fun x => q (Inc.antisymm x (inc_zero s)), if_neg q]
theorem Mat.nuA_sum {j : Nat} (hj : j < (flats m B).length) : sumN (flats m B).length (fun i => if Inc ((flats m B).getD i 0) ((flats m B).getD j 0) then nuA (m := m) (B := B) i else 0) = if (flats m B).getD j 0 = 0 then 1 else 0 := by
  obtain ⟨j1, j2⟩ := mem_flats.1 (mem_getD.2 ⟨j, hj, rfl⟩)
  rw [← all_sum j1]
  have e1 : ∀ i, i < (flats m B).length → (if Inc ((flats m B).getD i 0) ((flats m B).getD j 0) then nuA (m := m) (B := B) i else 0) = sumN (2 ^ m) (fun s => if IsCl m B s ((flats m B).getD i 0) then (if Inc s ((flats m B).getD j 0) then sg (cnt m s) else 0) else 0) := fun i hi => by
    have key : ∀ s, s < 2 ^ m → (if IsCl m B s ((flats m B).getD i 0) then (if Inc s ((flats m B).getD j 0) then sg (cnt m s) else 0) else 0) = if Inc ((flats m B).getD i 0) ((flats m B).getD j 0) then (if IsCl m B s ((flats m B).getD i 0) then sg (cnt m s) else 0) else 0 := fun s hs => by
      by_cases q : IsCl m B s ((flats m B).getD i 0)
      · have q2 := h.cl_inc_iff hs q j2
        rw [if_pos q]
        by_cases q3 : Inc s ((flats m B).getD j 0)
        · rw [if_pos q3, if_pos (q2.2 q3), if_pos q]
        · rw [if_neg q3, if_neg fun k => q3 (q2.1 k)]
      · rw [if_neg q, if_neg q]
        split <;> rfl
    rw [sumN_congr key]
    split
    · rfl
    · rw [sumN_zero]
  rw [sumN_congr e1, sumN_swap]
  refine sumN_congr fun s hs => ?_
  obtain ⟨k, k1, k2, k3⟩ := h.cl_idx hs
  exact h.cl_sum hs (fun _ => if Inc s ((flats m B).getD j 0) then sg (cnt m s) else 0) k1 k2 k3
theorem Mat.nuA_mob (h00 : Flat m B 0) : ∀ (n j : Nat), j ≤ n → j < (flats m B).length → nuA (m := m) (B := B) j = mob (flats m B) j := by
  have hF : Fam m (flats m B) := filter_fam h.m8 _
  have hpos : 0 < 2 ^ m := Nat.pow_pos (by omega)
  have hz : ∀ j, j < (flats m B).length → ((flats m B).getD j 0 = 0 ↔ j = 0) := fun j hj => by
    obtain ⟨k, k1, k2⟩ := mem_getD.1 (mem_flats.2 ⟨hpos, h00⟩)
    constructor
    · intro e
      rcases Nat.eq_zero_or_pos j with c | c
      · exact c
      · have := hF.rise 0 j c hj; omega
    · rintro rfl
      rcases Nat.eq_zero_or_pos k with c | c
      · subst c; exact k2
      · have := hF.rise 0 k c k1; omega
  have one : ∀ (j : Nat) (hl : j < (flats m B).length) (ih : ∀ i, i < j → nuA (m := m) (B := B) i = mob (flats m B) i), nuA (m := m) (B := B) j = mob (flats m B) j := fun j hl ih => by
    have h1 := h.nuA_sum hl
    have h2 := hF.weisner hl
    have e : ∀ i, i < (flats m B).length → (if Inc ((flats m B).getD i 0) ((flats m B).getD j 0) then nuA (m := m) (B := B) i else 0) = (if Inc ((flats m B).getD i 0) ((flats m B).getD j 0) then mob (flats m B) i else 0) + if i = j then nuA (m := m) (B := B) j - mob (flats m B) j else 0 := fun i hi => by
      rcases Nat.lt_trichotomy i j with q | q | q
      · rw [ih i q, if_neg (show ¬ i = j by omega), Int.add_zero]
      · subst q; rw [if_pos (Inc.refl _), if_pos (Inc.refl _), if_pos rfl]; omega
      · have : ¬ Inc ((flats m B).getD i 0) ((flats m B).getD j 0) := fun c => by have := hF.inc_idx hi hl c; omega
        rw [if_neg this, if_neg this, if_neg (show ¬ i = j by omega)]; rfl
    rw [sumN_congr e, sumN_add, sumN_single _ _ _ hl, h2] at h1
    by_cases c : j = 0
    · rw [if_pos c, if_pos ((hz j hl).2 c)] at h1; omega
    · rw [if_neg c, if_neg fun k => c ((hz j hl).1 k)] at h1; omega
  intro n
  induction n with
  | zero => exact fun j hj hl => one j hl fun i hi => absurd hi (by omega)
  | succ n ih => exact fun j hj hl => one j hl fun i hi => ih i (by omega) (by omega)
/-- The slope at one. -/
theorem Mat.slope (h00 : Flat m B 0) (h0 : 0 < m) : sumN (rk m B (2 ^ m - 1) + 1) (fun j => (j : Int) * (chr m B).getD j 0) = - bet m (rk m B) := by
  have hF : Fam m (flats m B) := filter_fam h.m8 _
  have e1 : ∀ j, j < rk m B (2 ^ m - 1) + 1 → (j : Int) * (chr m B).getD j 0 = sumN (flats m B).length (fun i => if j = rk m B (2 ^ m - 1) - rk m B ((flats m B).getD i 0) then (j : Int) * mob (flats m B) i else 0) := fun j hj => by
    unfold chr
    rw [if_pos ((h.flat0).2 h00), List.getD_eq_getElem?_getD, List.getElem?_map, List.getElem?_range hj]
    show (j : Int) * sumN _ _ = _
    rw [← sumN_mul]
    refine sumN_congr fun i hi => ?_
    by_cases q : j = rk m B (2 ^ m - 1) - rk m B ((flats m B).getD i 0)
    · rw [if_pos q.symm, if_pos q]
    · rw [if_neg (Ne.symm q), if_neg q, Int.mul_zero]
  rw [sumN_congr e1, sumN_swap]
  have e2 : ∀ i, i < (flats m B).length → sumN (rk m B (2 ^ m - 1) + 1) (fun j => if j = rk m B (2 ^ m - 1) - rk m B ((flats m B).getD i 0) then (j : Int) * mob (flats m B) i else 0) = sumN (2 ^ m) (fun s => if IsCl m B s ((flats m B).getD i 0) then sg (cnt m s) * ((rk m B (2 ^ m - 1) : Nat) - (rk m B s : Nat) : Int) else 0) := fun i hi => by
    obtain ⟨f1, f2⟩ := mem_flats.1 (mem_getD.2 ⟨i, hi, rfl⟩)
    have hle := h.rk_full f1
    have e3 : ∀ j, j < rk m B (2 ^ m - 1) + 1 → (if j = rk m B (2 ^ m - 1) - rk m B ((flats m B).getD i 0) then (j : Int) * mob (flats m B) i else 0) = if j = rk m B (2 ^ m - 1) - rk m B ((flats m B).getD i 0) then ((rk m B (2 ^ m - 1) - rk m B ((flats m B).getD i 0) : Nat) : Int) * mob (flats m B) i else 0 := fun j _ => by
      by_cases q : j = rk m B (2 ^ m - 1) - rk m B ((flats m B).getD i 0)
      · rw [if_pos q, if_pos q, ← q]
      · rw [if_neg q, if_neg q]
    rw [sumN_congr e3, sumN_single _ _ _ (by omega), ← h.nuA_mob h00 i i (Nat.le_refl _) hi]
    unfold nuA
    rw [← sumN_mul]
    refine sumN_congr fun s hs => ?_
    by_cases q : IsCl m B s ((flats m B).getD i 0)
    · have := h.cl_rk hs q
      rw [if_pos q, if_pos q, Int.mul_comm, this]
      congr 1
      omega
    · rw [if_neg q, if_neg q, Int.mul_zero]
  rw [sumN_congr e2, sumN_swap]
  have e4 : ∀ s, s < 2 ^ m → sumN (flats m B).length (fun i => if IsCl m B s ((flats m B).getD i 0) then sg (cnt m s) * ((rk m B (2 ^ m - 1) : Nat) - (rk m B s : Nat) : Int) else 0) = (rk m B (2 ^ m - 1) : Nat) * sg (cnt m s) + - (sg (cnt m s) * (rk m B s : Nat)) := fun s hs => by
    obtain ⟨k, k1, k2, k3⟩ := h.cl_idx hs
    rw [h.cl_sum hs (fun _ => sg (cnt m s) * ((rk m B (2 ^ m - 1) : Nat) - (rk m B s : Nat) : Int)) k1 k2 k3, Int.mul_sub, Int.mul_comm]
    omega
  rw [sumN_congr e4, sumN_add, sumN_mul, sumN_neg, sg_all h0, Int.mul_zero, Int.zero_add]
  rfl
theorem Mat.rkFb : RkF (rk m B) where
  zero := h.rk_zero
  mono := fun s t hs => h.rk_mono hs
  step := fun s i => by
    rcases Nat.lt_or_ge i m with c | c
    · exact h.rk_step s c
    · refine rk_le.2 fun b hb => ?_
      have e : cnt m ((s ||| 2 ^ i) &&& b) = cnt m (s &&& b) := cnt_congr fun j hj => by
        rw [Nat.testBit_and, Nat.testBit_or, Nat.testBit_and, testBit_pow, decide_eq_false (by omega), Bool.or_false]
      rw [e]
      have := le_rk (m := m) (s := s) hb
      omega
  sub := h.rk_sub
theorem Mat.conn_bet (h2 : 2 ≤ m) : bet m (rk m B) ≠ 0 ↔ Conn m (rk m B) := by
  constructor
  · intro q
    rcases Classical.em (Conn m (rk m B)) with c | c
    · exact c
    · exact absurd (h.rkFb.apart c) q
  · intro c e
    have := (RkF.beta m _ h.rkFb).2 (by omega) (fun z => by omega) c
    rw [e, Int.mul_zero] at this
    omega
/-- One component just if it does not fall apart. -/
theorem Mat.conn_one (h2 : 2 ≤ m) {K : List Nat} (k2 : Fam m K) (k3 : ∀ s, s ∈ K → ∃ v, v < m ∧ IsComp m B v s) (k4 : ∀ v, v < m → ∃ s, s ∈ K ∧ IsComp m B v s) : K.length = 1 ↔ Conn m (rk m B) := by
  constructor
  · intro hK1 S hS s0 s1
    have hone : ∀ s, s ∈ K → s = K.getD 0 0 := fun s hs => by
      obtain ⟨j, j1, rfl⟩ := mem_getD.1 hs
      have : j = 0 := by omega
      rw [this]
    rcases Nat.lt_or_ge (rk m B (2 ^ m - 1)) (rk m B S + rk m B (cpl m S)) with c | c
    · exact c
    exfalso
    have a1 := h.rk_sep hS c
    have a2 := h.rk_sep (S := cpl m S) (cpl_lt _ _) (by rw [cpl_cpl hS]; omega)
    obtain ⟨i, hi⟩ := exists_bit s0
    obtain ⟨j, hj⟩ := exists_bit s1
    obtain ⟨s, g1, g2⟩ := k4 i (bit_lt hS hi)
    obtain ⟨t, g3, g4⟩ := k4 j (bit_lt (cpl_lt _ _) hj)
    have e : s = t := (hone s g1).trans (hone t g3).symm
    subst e
    have := g4.least _ (cpl_lt _ _) a2 hj i g2.mem
    rw [cpl_bit, hi] at this
    simp at this
  · intro hc
    obtain ⟨s, g1, _⟩ := k4 0 (by omega)
    obtain ⟨j0, g2, _⟩ := mem_getD.1 g1
    rcases Nat.lt_or_ge 1 K.length with c | c
    · exfalso
      obtain ⟨v, _, hs⟩ := k3 _ (mem_getD.2 ⟨0, by omega, rfl⟩)
      obtain ⟨u, _, ht⟩ := k3 _ (mem_getD.2 ⟨1, c, rfl⟩)
      have hlt := k2.rise 0 1 (by omega) c
      have := hc _ hs.lt (fun e => by have := hs.mem; rw [e] at this; simp at this) fun e => by
        have e1 : K.getD 0 0 = 2 ^ m - 1 := by
          rw [← cpl_cpl hs.lt, e]
          exact Nat.eq_of_testBit_eq fun i => by rw [cpl_bit, full_bit]; simp
        have := ht.lt
        omega
      have := h.sep_rk hs.lt hs.sep
      omega
    · omega
theorem Mat.loop_conn (h2 : 2 ≤ m) (h00 : ¬ Flat m B 0) : ¬ Conn m (rk m B) := fun hc => h00 fun i hi hb e => by
  rw [Nat.zero_or, h.rk_zero] at e
  have c1 := hc (2 ^ i) (pow_lt hi) (by have : 0 < 2 ^ i := Nat.pow_pos (by omega); omega) fun z => by
    have hj : ∃ j, j < m ∧ i ≠ j := by
      rcases Nat.eq_zero_or_pos i with q | q
      · exact ⟨1, by omega, by omega⟩
      · exact ⟨0, by omega, by omega⟩
    obtain ⟨j, j1, j2⟩ := hj
    have : (cpl m (2 ^ i)).testBit j = true := by rw [cpl_bit, testBit_pow]; simp [j1, j2]
    rw [z] at this; simp at this
  have := h.rk_full (cpl_lt m (2 ^ i))
  omega
end
theorem Char_bad {n : Int} {l : List Int} {c : Int} (h : axioms_Check n l = some c) (h0 : c ≠ 0) : flats_Characteristic n l = some ([], c) := by
  unfold flats_Characteristic
  rw [flats_of_bad h h0, Option.bind_some, if_pos h0]

theorem mat1T : Mat 1 [1] := by
  refine ⟨⟨by omega, fun s hs => ?_, fun i j hij hj => ?_⟩, by simp, fun a ha b hb => ?_, fun a ha b hb x h1 h2 => ?_⟩
  · have := List.mem_singleton.1 hs; omega
  · simp at hj; omega
  · rw [List.mem_singleton.1 ha, List.mem_singleton.1 hb]
  · rw [List.mem_singleton.1 ha] at h1; rw [List.mem_singleton.1 hb, h1] at h2; cases h2
theorem chr_one : chr 1 [1] = [-1, 1] := by decide +kernel
theorem chr_small {m : Nat} {B : List Nat} (h : Mat m B) (j : Nat) : -17592186044416 ≤ (chr m B).getD j 0 ∧ (chr m B).getD j 0 ≤ 17592186044416 := by
  have hF : Fam m (flats m B) := filter_fam h.m8 _
  have hsub : (flats m B).Sublist (List.range (2 ^ m)) := List.filter_sublist
  have hlen := hF.len
  unfold chr
  split
  · rcases Nat.lt_or_ge j (rk m B (2 ^ m - 1) + 1) with c | c
    · rw [List.getD_eq_getElem?_getD, List.getElem?_map, List.getElem?_range c]
      have b1 := sumN_abs (n := (flats m B).length) (g := fun i => if rk m B (2 ^ m - 1) - rk m B ((flats m B).getD i 0) = j then mob (flats m B) i else 0) (c := 68719476736) fun i hi => by
        have := hF.mob_small hsub (i := i) hi
        split <;> omega
      have b3 : ((flats m B).length : Int) * 68719476736 ≤ 256 * 68719476736 := Int.mul_le_mul_of_nonneg_right (by omega) (by omega)
      simp only [Option.map_some, Option.getD_some]
      omega
    · rw [List.getD_eq_getElem?_getD, List.getElem?_eq_none (by simp; omega)]; simp
  · rw [List.getD_eq_getElem?_getD, List.getElem?_replicate]
    split <;> simp
end Go.SH
