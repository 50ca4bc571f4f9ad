/-
  CRAPO's number of a rank function: it is nought just if the matroid falls apart. Conditions: at most eight elements.
-/
import Derived.Test.YtcjhpcbipcdhiaaLTa
import Derived.Test.YtcjhpcbipcdhiaaLRk
import Derived.Test.YtcjhpcbipcdhiaaLWa
set_option linter.unusedSimpArgs false
set_option linter.unusedVariables false
namespace Go.SH
open Go Go.AX

/-- TUTTE. -/
theorem RkF.tutte {m : Nat} {r : Nat → Nat} (h : RkF r) (hc : ∀ S, S < 2 ^ m → S ≠ 0 → cpl m S ≠ 0 → r (2 ^ m - 1) < r S + r (cpl m S)) {e X U : Nat} (he : e < m) (hm : 2 ≤ m)
    (hX : Inc X (cpl m (2 ^ e))) (hU : Inc U (cpl m (2 ^ e))) (x1 : X ≠ 0) (x2 : dif (cpl m X) (2 ^ e) ≠ 0) (u1 : U ≠ 0) (u2 : dif (cpl m U) (2 ^ e) ≠ 0)
    (hd : r X + r (dif (cpl m X) (2 ^ e)) ≤ r (dif (2 ^ m - 1) (2 ^ e)))
    (hk : r (U ||| 2 ^ e) + r (dif (cpl m U) (2 ^ e) ||| 2 ^ e) ≤ r (2 ^ m - 1) + r (2 ^ e)) : False := by
  have nX : X.testBit e = false := by
    cases q : X.testBit e
    · rfl
    · have := hX e q; rw [cpl_bit, testBit_pow] at this; simp at this
  have nU : U.testBit e = false := by
    cases q : U.testBit e
    · rfl
    · have := hU e q; rw [cpl_bit, testBit_pow] at this; simp at this
  have lX : X < 2 ^ m := hX.lt (cpl_lt _ _)
  have lU : U < 2 ^ m := hU.lt (cpl_lt _ _)
  have hdm : r (dif (2 ^ m - 1) (2 ^ e)) ≤ r (2 ^ m - 1) := h.mono _ _ (inc_dif _ _)
  have he1 : r (2 ^ e) ≤ 1 := by
    have := h.step 0 e
    rw [Nat.zero_or, h.zero] at this
    omega
  -- a part P of X and U: its complement is the other part with e
  have key : ∀ P Q R T : Nat, P < 2 ^ m → R < 2 ^ m → (∀ i, (Q.testBit i = (decide (i < m) && !P.testBit i && !decide (e = i)))) → (∀ i, (T.testBit i = (decide (i < m) && !R.testBit i && !decide (e = i)))) → P.testBit e = false → R.testBit e = false →
      (r P + r (R ||| 2 ^ e) + r Q + r (T ||| 2 ^ e) ≤ 2 * r (2 ^ m - 1) + 1) → P &&& R = 0 ∨ Q &&& T = 0 := by
    intro P Q R T hP hR hQ hT nP nR hsum
    rcases Classical.em (P &&& R = 0 ∨ Q &&& T = 0) with q | q
    · exact q
    exfalso
    have q1 : P &&& R ≠ 0 := fun z => q (.inl z)
    have q2 : Q &&& T ≠ 0 := fun z => q (.inr z)
    have s1 := h.sub P (R ||| 2 ^ e)
    have s2 := h.sub Q (T ||| 2 ^ e)
    have hQe : Q.testBit e = false := by rw [hQ]; simp
    have hTe : T.testBit e = false := by rw [hT]; simp
    have a1 : P &&& (R ||| 2 ^ e) = P &&& R := Nat.eq_of_testBit_eq fun i => by
      rw [Nat.testBit_and, Nat.testBit_or, Nat.testBit_and, testBit_pow]
      by_cases c : e = i
      · subst c; simp [nP]
      · simp [c]
    have a2 : Q &&& (T ||| 2 ^ e) = Q &&& T := Nat.eq_of_testBit_eq fun i => by
      rw [Nat.testBit_and, Nat.testBit_or, Nat.testBit_and, testBit_pow]
      by_cases c : e = i
      · subst c; simp [hQe]
      · simp [c]
    have lPR : P &&& R < 2 ^ m := (inc_and_l P R).lt hP
    have lQ : Q < 2 ^ m := lt_of_bits fun i hi => by rw [hQ]; simp; omega
    have lQT : Q &&& T < 2 ^ m := (inc_and_l Q T).lt lQ
    have b1 : cpl m (P &&& R) = Q ||| (T ||| 2 ^ e) := Nat.eq_of_testBit_eq fun i => by
      rw [cpl_bit, Nat.testBit_and, Nat.testBit_or, Nat.testBit_or, hQ, hT, testBit_pow]
      by_cases c : e = i
      · subst c; simp [he, nP]
      · cases P.testBit i <;> cases R.testBit i <;> simp [c]
    have b2 : cpl m (Q &&& T) = P ||| (R ||| 2 ^ e) := Nat.eq_of_testBit_eq fun i => by
      rw [cpl_bit, Nat.testBit_and, Nat.testBit_or, Nat.testBit_or, hQ, hT, testBit_pow]
      by_cases c : e = i
      · subst c; simp [he]
      · rcases Nat.lt_or_ge i m with z | z
        · cases P.testBit i <;> cases R.testBit i <;> simp [c, z]
        · rw [bit_ge hP z, bit_ge hR z]; simp [c, show ¬ i < m by omega]
    have nz : ∀ Z : Nat, Z.testBit e = true → Z ≠ 0 := fun Z hZ z => by rw [z] at hZ; simp at hZ
    have c1 := hc _ lPR q1 (by rw [b1]; exact nz _ (by rw [Nat.testBit_or, Nat.testBit_or, testBit_pow]; simp))
    have c2 := hc _ lQT q2 (by rw [b2]; exact nz _ (by rw [Nat.testBit_or, Nat.testBit_or, testBit_pow]; simp))
    rw [b1] at c1
    rw [b2] at c2
    rw [a1] at s1
    rw [a2] at s2
    omega
  have bit : ∀ P i, (dif (cpl m P) (2 ^ e)).testBit i = (decide (i < m) && !P.testBit i && !decide (e = i)) := fun P i => by
    rw [testBit_dif, cpl_bit, testBit_pow]
  have inv : ∀ P : Nat, P < 2 ^ m → P.testBit e = false → ∀ i, P.testBit i = (decide (i < m) && !(dif (cpl m P) (2 ^ e)).testBit i && !decide (e = i)) := fun P hP nP i => by
    rw [bit]
    rcases Nat.lt_or_ge i m with z | z
    · by_cases c : e = i
      · subst c; simp [nP]
      · simp [c, z]
    · rw [bit_ge hP z]; simp; omega
  have nV : (dif (cpl m U) (2 ^ e)).testBit e = false := by rw [bit]; simp
  have lV : dif (cpl m U) (2 ^ e) < 2 ^ m := dif_lt (cpl_lt _ _)
  have k1 := key X _ U _ lX lU (bit X) (bit U) nX nU (by omega)
  have k2 := key X (dif (cpl m X) (2 ^ e)) (dif (cpl m U) (2 ^ e)) U lX lV (bit X) (inv U lU nU) nX nV (by omega)
  -- the four parts
  have dis : ∀ {P Q : Nat}, P &&& Q = 0 → ∀ i, P.testBit i = true → Q.testBit i = true → False := fun hz i p q => and_bit p q hz
  obtain ⟨x, hx⟩ := exists_bit x1
  obtain ⟨y, hy⟩ := exists_bit x2
  obtain ⟨u, hu⟩ := exists_bit u1
  obtain ⟨v, hv⟩ := exists_bit u2
  have par : ∀ P : Nat, ∀ i, i < m → e ≠ i → P.testBit i = true ∨ (dif (cpl m P) (2 ^ e)).testBit i = true := fun P i hi hne => by
    rw [bit]
    cases P.testBit i <;> simp [hi, hne]
  have ne : ∀ P : Nat, P.testBit e = false → ∀ i, P.testBit i = true → e ≠ i := fun P hP i hi c => by subst c; rw [hP] at hi; cases hi
  have nY : (dif (cpl m X) (2 ^ e)).testBit e = false := by rw [bit]; simp
  have lY : dif (cpl m X) (2 ^ e) < 2 ^ m := dif_lt (cpl_lt _ _)
  rcases k1 with k1 | k1 <;> rcases k2 with k2 | k2
  · rcases par U x (bit_lt lX hx) (ne X nX x hx) with q | q
    · exact dis k1 x hx q
    · exact dis k2 x hx q
  · rcases par X u (bit_lt lU hu) (ne U nU u hu) with q | q
    · exact dis k1 u q hu
    · exact dis k2 u q hu
  · rcases par X v (bit_lt lV hv) (ne _ nV v hv) with q | q
    · exact dis k2 v q hv
    · exact dis k1 v q hv
  · rcases par U y (bit_lt lY hy) (ne _ nY y hy) with q | q
    · exact dis k2 y hy q
    · exact dis k1 y hy q

theorem sg_turn {m e s : Nat} (he : e < m) (hs : s < 2 ^ m) : sg (cnt m (s ^^^ 2 ^ e)) = - sg (cnt m s) := by
  cases q : s.testBit e with
  | true =>
    have e1 : s ^^^ 2 ^ e = dif s (2 ^ e) := Nat.eq_of_testBit_eq fun i => by
      rw [Nat.testBit_xor, testBit_dif, testBit_pow]
      by_cases c : e = i
      · subst c; simp [q]
      · simp [c]
    rw [e1, cnt_dif hs q, sg_succ]; omega
  | false =>
    have e1 : s ^^^ 2 ^ e = s ||| 2 ^ e := Nat.eq_of_testBit_eq fun i => by
      rw [Nat.testBit_xor, Nat.testBit_or, testBit_pow]
      by_cases c : e = i
      · subst c; simp [q]
      · simp [c]
    rw [e1, cnt_add he q, sg_succ]
theorem sg_all {m : Nat} (h0 : 0 < m) : sumN (2 ^ m) (fun s => sg (cnt m s)) = 0 := sumN_turned h0 fun s hs => sg_turn h0 hs
/-- What the ranks come to, with signs. -/
def bet (m : Nat) (r : Nat → Nat) : Int := sumN (2 ^ m) fun s => sg (cnt m s) * (r s : Nat)
/-- It does not fall apart. -/
def Conn (m : Nat) (r : Nat → Nat) : Prop := ∀ S, S < 2 ^ m → S ≠ 0 → cpl m S ≠ 0 → r (2 ^ m - 1) < r S + r (cpl m S)
theorem RkF.apart {m : Nat} {r : Nat → Nat} (h : RkF r) (hc : ¬ Conn m r) : bet m r = 0 := by
  obtain ⟨S, hS, s0, s1, hle⟩ : ∃ S, S < 2 ^ m ∧ S ≠ 0 ∧ cpl m S ≠ 0 ∧ r S + r (cpl m S) ≤ r (2 ^ m - 1) := by
    rcases Classical.em (∃ S, S < 2 ^ m ∧ S ≠ 0 ∧ cpl m S ≠ 0 ∧ r S + r (cpl m S) ≤ r (2 ^ m - 1)) with q | q
    · exact q
    · exfalso
      refine hc fun S h1 h2 h3 => ?_
      rcases Nat.lt_or_ge (r (2 ^ m - 1)) (r S + r (cpl m S)) with c | c
      · exact c
      · exact absurd ⟨S, h1, h2, h3, c⟩ q
  have part : ∀ A, A < 2 ^ m → r A = r (A &&& S) + r (A &&& cpl m S) := fun A hA => by
    have u1 := h.sub A S
    have u2 := h.sub (A ||| S) (cpl m S)
    have u3 := h.sub (A &&& S) (A &&& cpl m S)
    have e1 : (A ||| S) ||| cpl m S = 2 ^ m - 1 := Nat.eq_of_testBit_eq fun k => by
      rw [Nat.testBit_or, Nat.testBit_or, cpl_bit, full_bit]
      cases q1 : A.testBit k with
      | true => simp [bit_lt hA q1]
      | false =>
        cases q2 : S.testBit k with
        | true => simp [bit_lt hS q2]
        | false => simp
    have e2 : (A ||| S) &&& cpl m S = A &&& cpl m S := Nat.eq_of_testBit_eq fun k => by
      rw [Nat.testBit_and, Nat.testBit_or, Nat.testBit_and, cpl_bit]
      cases A.testBit k <;> cases S.testBit k <;> simp
    have e3 : A &&& S ||| A &&& cpl m S = A := Nat.eq_of_testBit_eq fun k => by
      rw [Nat.testBit_or, Nat.testBit_and, Nat.testBit_and, cpl_bit]
      cases q1 : A.testBit k with
      | true => cases S.testBit k <;> simp [bit_lt hA q1]
      | false => rfl
    have e4 : (A &&& S) &&& (A &&& cpl m S) = 0 := Nat.eq_of_testBit_eq fun k => by
      rw [Nat.testBit_and, Nat.testBit_and, Nat.testBit_and, cpl_bit, Nat.zero_testBit]
      cases A.testBit k <;> cases S.testBit k <;> simp
    rw [e1, e2] at u2
    rw [e3, e4, h.zero] at u3
    omega
  have half : ∀ T : Nat, T < 2 ^ m → (∃ e, e < m ∧ T.testBit e = false) → sumN (2 ^ m) (fun s => sg (cnt m s) * (r (s &&& T) : Nat)) = 0 := fun T hT ⟨e, he, hTe⟩ => sumN_turned he fun s hs => by
    have e1 : (s ^^^ 2 ^ e) &&& T = s &&& T := Nat.eq_of_testBit_eq fun i => by
      rw [Nat.testBit_and, Nat.testBit_xor, Nat.testBit_and, testBit_pow]
      by_cases c : e = i
      · subst c; simp [hTe]
      · simp [c]
    rw [e1, sg_turn he hs, Int.neg_mul]
  have hS2 := half S hS (by
    obtain ⟨i, hi⟩ := exists_bit s1
    rw [cpl_bit] at hi
    simp only [Bool.and_eq_true, decide_eq_true_eq, Bool.not_eq_true'] at hi
    exact ⟨i, hi⟩)
  have hC2 := half (cpl m S) (cpl_lt _ _) (by
    obtain ⟨i, hi⟩ := exists_bit s0
    exact ⟨i, bit_lt hS hi, by rw [cpl_bit, hi]; simp⟩)
  unfold bet
  rw [sumN_congr (h := fun s => sg (cnt m s) * (r (s &&& S) : Nat) + sg (cnt m s) * (r (s &&& cpl m S) : Nat)) fun s hs => by
    rw [part s hs, Int.natCast_add, Int.mul_add], sumN_add, hS2, hC2]; rfl
theorem add_or {m s : Nat} (hs : s < 2 ^ m) : 2 ^ m + s = s ||| 2 ^ m := Nat.eq_of_testBit_eq fun i => by
  rw [add_bit hs, Nat.testBit_or, testBit_pow]
  by_cases c : m = i
  · subst c; simp
  · have : ¬ i = m := fun e => c e.symm
    simp [c, this]
/-- CRAPO: taking an element off and over. -/
theorem bet_step {m : Nat} {r : Nat → Nat} (h : RkF r) (h0 : 0 < m) (h1 : r (2 ^ m) = 1) : bet (m + 1) r = bet m r - bet m (fun s => r (s ||| 2 ^ m) - 1) := by
  unfold bet
  rw [sumN_two]
  have e1 : sumN (2 ^ m) (fun s => sg (cnt (m + 1) s) * (r s : Nat)) = sumN (2 ^ m) (fun s => sg (cnt m s) * (r s : Nat)) := sumN_congr fun s hs => by
    simp only [cnt, bit_ge hs (Nat.le_refl m)]; simp
  have e2 : sumN (2 ^ m) (fun s => sg (cnt (m + 1) (2 ^ m + s)) * (r (2 ^ m + s) : Nat)) = - sumN (2 ^ m) (fun s => sg (cnt m s) * ((r (s ||| 2 ^ m) - 1 : Nat) : Int)) + - sumN (2 ^ m) (fun s => sg (cnt m s)) := by
    rw [← sumN_neg, ← sumN_neg, ← sumN_add]
    refine sumN_congr fun s hs => ?_
    have hpos : 1 ≤ r (s ||| 2 ^ m) := by rw [← h1]; exact h.mono _ _ (inc_or_r _ _)
    have hc : cnt (m + 1) (2 ^ m + s) = cnt m s + 1 := by
      simp only [cnt]
      rw [show (2 ^ m + s).testBit m = true by rw [add_bit hs]; simp]
      have : cnt m (2 ^ m + s) = cnt m s := cnt_congr fun x hx => by
        rw [add_bit hs]
        have : decide (x = m) = false := by simp; omega
        rw [this, Bool.false_or]
      rw [this]; simp
    rw [hc, sg_succ, add_or hs]
    have : ((r (s ||| 2 ^ m) : Nat) : Int) = ((r (s ||| 2 ^ m) - 1 : Nat) : Int) + 1 := by omega
    rw [this, Int.mul_add, Int.neg_mul, Int.mul_one]
  rw [e1, e2, sg_all h0]
  show _ = sumN (2 ^ m) (fun s => sg (cnt m s) * (r s : Nat)) - sumN (2 ^ m) (fun s => sg (cnt m s) * ((r (s ||| 2 ^ m) - 1 : Nat) : Int))
  omega
theorem RkF.beta : ∀ (m : Nat) (r : Nat → Nat), RkF r → 0 ≤ sg (r (2 ^ m - 1)) * bet m r ∧ (1 ≤ m → (m = 1 → 1 ≤ r (2 ^ m - 1)) → Conn m r → 1 ≤ sg (r (2 ^ m - 1)) * bet m r)
  | 0, r, h => by
    have e : bet 0 r = 0 := by
      unfold bet
      simp [sumN, h.zero]
    rw [e]
    exact ⟨by omega, fun q => by omega⟩
  | m + 1, r, h => by
    rcases Nat.eq_zero_or_pos m with c | c
    · subst c
      have h1 := h.step 0 0
      rw [h.zero, Nat.zero_or] at h1
      have e : bet 1 r = - ((r 1 : Nat) : Int) := by
        unfold bet
        simp [sumN, h.zero, cnt, sg]
      have e2 : 2 ^ (0 + 1) - 1 = 1 := rfl
      have e3 : (2 : Nat) ^ 0 = 1 := rfl
      rw [e3] at h1
      rw [e2]
      show 0 ≤ _ * bet 1 r ∧ (_ → _ → _ → 1 ≤ _ * bet 1 r)
      rw [e]
      have hr : r 1 = 0 ∨ r 1 = 1 := by omega
      rcases hr with hr | hr
      · rw [hr]; exact ⟨by decide, fun _ q => by have := q rfl; omega⟩
      · rw [hr]; exact ⟨by decide, fun _ _ _ => by decide⟩
    rcases Classical.em (Conn (m + 1) r) with hc | hc
    rotate_left
    · rw [h.apart hc]
      exact ⟨by omega, fun _ _ q => absurd q hc⟩
    have hpm : 0 < 2 ^ m := Nat.pow_pos (by omega)
    have hp2 : 2 ^ (m + 1) = 2 ^ m + 2 ^ m := by rw [Nat.pow_succ]; omega
    have hem : 2 ^ m < 2 ^ (m + 1) := by omega
    have hfull : 2 ^ m - 1 ||| 2 ^ m = 2 ^ (m + 1) - 1 := Nat.eq_of_testBit_eq fun i => by
      rw [Nat.testBit_or, full_bit, full_bit, testBit_pow, Bool.eq_iff_iff, Bool.or_eq_true, decide_eq_true_eq, decide_eq_true_eq, decide_eq_true_eq]
      omega
    have hce : cpl (m + 1) (2 ^ m) = 2 ^ m - 1 := Nat.eq_of_testBit_eq fun i => by
      rw [cpl_bit, full_bit, testBit_pow, Bool.eq_iff_iff]
      simp only [Bool.and_eq_true, Bool.not_eq_true', decide_eq_true_eq, decide_eq_false_iff_not]
      omega
    have hm1 : 2 ^ m - 1 ≠ 0 := by
      have : 2 ^ 1 ≤ 2 ^ m := Nat.pow_le_pow_right (by omega) c
      omega
    have hconn := hc (2 ^ m) hem (by omega) (by rw [hce]; exact hm1)
    rw [hce] at hconn
    have hst := h.step 0 m
    rw [h.zero, Nat.zero_or] at hst
    have hmo := h.mono (2 ^ m - 1) (2 ^ (m + 1) - 1) (by rw [← hfull]; exact inc_or_l _ _)
    have h1 : r (2 ^ m) = 1 := by omega
    have hfe : r (2 ^ (m + 1) - 1) = r (2 ^ m - 1) := by omega
    have hpos : 1 ≤ r (2 ^ (m + 1) - 1) := by
      have := h.mono (2 ^ m) (2 ^ (m + 1) - 1) (by rw [← hfull]; exact inc_or_r _ _)
      omega
    have h' := h.contract h1
    obtain ⟨a1, a2⟩ := RkF.beta m r h
    obtain ⟨b1, b2⟩ := RkF.beta m _ h'
    simp only [hfull] at b1 b2
    have hsum : sg (r (2 ^ (m + 1) - 1)) * bet (m + 1) r = sg (r (2 ^ m - 1)) * bet m r + sg (r (2 ^ (m + 1) - 1) - 1) * bet m (fun s => r (s ||| 2 ^ m) - 1) := by
      rw [bet_step h c h1, Int.mul_sub, hfe]
      have hs := sg_succ (r (2 ^ m - 1) - 1)
      rw [show r (2 ^ m - 1) - 1 + 1 = r (2 ^ m - 1) by omega] at hs
      rw [hs, Int.neg_mul, Int.neg_mul]
      omega
    rw [hsum]
    refine ⟨by omega, fun _ _ _ => ?_⟩
    rcases Classical.em (Conn m r) with q | q
    · have := a2 c (fun _ => by omega) q
      omega
    · have d : m ≠ 1 := fun d => q (by
        subst d
        intro S s1 s2 s3
        have : S = 1 := by omega
        subst this
        exact absurd (by decide) s3)
      have := b2 c (fun z => absurd z d) fun S s1 s2 s3 => ?_
      · omega
      · skip
        rcases Nat.lt_or_ge ((fun s => r (s ||| 2 ^ m) - 1) (2 ^ m - 1)) ((fun s => r (s ||| 2 ^ m) - 1) S + (fun s => r (s ||| 2 ^ m) - 1) (cpl m S)) with z | z
        · exact z
        exfalso
        obtain ⟨X, hX, x0, x1, hle⟩ : ∃ S, S < 2 ^ m ∧ S ≠ 0 ∧ cpl m S ≠ 0 ∧ r S + r (cpl m S) ≤ r (2 ^ m - 1) := by
          rcases Classical.em (∃ S, S < 2 ^ m ∧ S ≠ 0 ∧ cpl m S ≠ 0 ∧ r S + r (cpl m S) ≤ r (2 ^ m - 1)) with q' | q'
          · exact q'
          · exfalso
            refine q fun S h1 h2 h3 => ?_
            rcases Nat.lt_or_ge (r (2 ^ m - 1)) (r S + r (cpl m S)) with w | w
            · exact w
            · exact absurd ⟨S, h1, h2, h3, w⟩ q'
        have low : ∀ A, A < 2 ^ m → Inc A (cpl (m + 1) (2 ^ m)) := fun A hA i hi => by
          rw [hce, full_bit]
          simpa using bit_lt hA hi
        have cp : ∀ A, A < 2 ^ m → dif (cpl (m + 1) A) (2 ^ m) = cpl m A := fun A hA => Nat.eq_of_testBit_eq fun i => by
          rw [testBit_dif, cpl_bit, cpl_bit, testBit_pow, Bool.eq_iff_iff]
          simp only [Bool.and_eq_true, Bool.not_eq_true', decide_eq_true_eq, decide_eq_false_iff_not]
          exact ⟨fun ⟨⟨g1, g2⟩, g3⟩ => ⟨by omega, g2⟩, fun ⟨g1, g2⟩ => ⟨⟨by omega, g2⟩, by omega⟩⟩
        have fd : dif (2 ^ (m + 1) - 1) (2 ^ m) = 2 ^ m - 1 := hce
        have p1 : 1 ≤ r (S ||| 2 ^ m) := by rw [← h1]; exact h.mono _ _ (inc_or_r _ _)
        have p2 : 1 ≤ r (cpl m S ||| 2 ^ m) := by rw [← h1]; exact h.mono _ _ (inc_or_r _ _)
        have p3 : 1 ≤ r (2 ^ m - 1 ||| 2 ^ m) := by rw [← h1]; exact h.mono _ _ (inc_or_r _ _)
        simp only at z
        rw [hfull] at z p3
        exact h.tutte hc (e := m) (X := X) (U := S) (by omega) (by omega) (low X hX) (low S s1) x0 (by rw [cp X hX]; exact x1) s2 (by rw [cp S s1]; exact s3) (by rw [cp X hX, fd]; exact hle) (by rw [cp S s1]; omega)
end Go.SH
