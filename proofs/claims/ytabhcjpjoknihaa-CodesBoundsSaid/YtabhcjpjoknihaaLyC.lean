/-
  Package codes as it computes: words by how many places are not nought; the least. Conditions: none.
-/
import Derived.Test.YtabhcjpjoknihaaLyB
set_option linter.unusedSimpArgs false
set_option linter.unusedVariables false
set_option linter.unusedSectionVars false
namespace Go.SH
open Go Go.AX

section
variable {p : Nat} [NeZero p]
/-- A word as a list. -/
structure Wd (n : Nat) (w : List Int) (u : Nat → Fin p) : Prop where
  len : w.length = n
  bd : ∀ j, j < n → 0 ≤ w.getD j 0 ∧ w.getD j 0 < p
  val : ∀ j, j < n → cF p (w.getD j 0) = u j
def hasW (n t : Nat) (x : Nat → Fin p) : Nat := if wt n x = t then 1 else 0
theorem hasW_le (n t : Nat) (x : Nat → Fin p) : hasW n t x ≤ 1 := by unfold hasW; split <;> omega
theorem Wd.ext {n : Nat} {w w' : List Int} {u : Nat → Fin p} (h : Wd n w u) (h' : Wd n w' u) : w = w' := by
  refine List.ext_getElem (by rw [h.len, h'.len]) fun j h1 h2 => ?_
  have hj : j < n := by rw [← h.len]; exact h1
  have e := (cF_eq (h.bd j hj) (h'.bd j hj)).1 (by rw [h.val j hj, h'.val j hj])
  rw [List.getD_eq_getElem?_getD, List.getD_eq_getElem?_getD, List.getElem?_eq_getElem h1, List.getElem?_eq_getElem h2] at e
  exact e
theorem wt_le (n : Nat) (u : Nat → Fin p) : wt n u ≤ n := by
  have := nS_le (n := n) (f := fun j => if u j ≠ 0 then 1 else 0) (g := fun _ => 1) fun j _ => by split <;> omega
  rw [nS_const] at this
  unfold wt; omega
theorem Weights_1_spec {n : Nat} (hn : n ≤ 8) {w q0 : List Int} {u : Nat → Fin p} (h : Wd n w u) (hq : q0.length = n + 1) (hb : ∀ t, t ≤ n → 0 ≤ q0.getD t 0 ∧ q0.getD t 0 ≤ 4611686018427387904) :
    Gets (codes_Weights_1 w q0) (fun z => z.length = n + 1 ∧ ∀ t, t ≤ n → z.getD t 0 = q0.getD t 0 + ((hasW n t u : Nat) : Int)) := by
  unfold codes_Weights_1
  refine gBind (R := fun k => k = ((wt n u : Nat) : Int)) (gFor n (fun j (x : Int × Int) => x.2 = (j : Int) ∧ x.1 = ((wt j u : Nat) : Int)) (Nat.zero_le _) ⟨rfl, rfl⟩ ?_) ?_
  · rintro j ⟨_, _⟩ hj ⟨rfl, rfl⟩
    simp only [toNat_nat]
    rw [h.len]
    refine gIte (fun c => ?_) fun c => gSome (by rw [show j = n by omega])
    have hjn : j < n := by omega
    have hbd := h.bd j hjn
    have hv := h.val j hjn
    have e : min (w.getD j 0) 1 = if u j ≠ 0 then 1 else 0 := by
      by_cases q : u j = 0
      · rw [if_neg (by simp [q])]
        have := (cF_eq0 hbd).1 (by rw [hv, q])
        omega
      · rw [if_pos q]
        have : w.getD j 0 ≠ 0 := fun z => q (by rw [← hv, z, cF_zero])
        omega
    have e2 : ((wt j u : Nat) : Int) + min (w.getD j 0) 1 = ((wt (j + 1) u : Nat) : Int) := by
      rw [e, wt_succ]
      split <;> simp
    have := wt_le (j + 1) u
    simp only [e2]
    exact gChk (by omega) (gChk (by omega) (gSome ⟨hjn, by simp, rfl⟩))
  · rintro _ rfl
    simp only [toNat_nat]
    have hw := wt_le n u
    have := hb (wt n u) hw
    refine gChk ⟨by omega, by omega⟩ (gSome ⟨by rw [List.length_set]; exact hq, fun t ht => ?_⟩)
    rw [setI_getD _ (by omega)]
    unfold hasW
    by_cases e : t = wt n u
    · rw [if_pos e, if_pos e.symm, e]; rfl
    · rw [if_neg e, if_neg fun q => e q.symm]; simp
theorem cS_has_le {M : Nat → Nat → Fin p} (n t : Nat) : ∀ r i u, cS M r i u (hasW n t) ≤ p ^ r
  | 0, i, u => by simpa [cS] using hasW_le n t u
  | r + 1, i, u => by
    simp only [cS]
    have := nS_le (n := p) (g := fun _ => p ^ r) fun c _ => cS_has_le (M := M) n t r (i + 1) (fun j => u j + cF p (c : Int) * M i j)
    rw [nS_const] at this
    rw [Nat.pow_succ, Nat.mul_comm]
    exact this
theorem cS_has_pos {M : Nat → Nat → Fin p} (n t : Nat) : ∀ r i u a, wt n (fun j => u j + cx M r i a j) = t → 0 < cS M r i u (hasW n t)
  | 0, i, u, a, h => by
    simp only [cS]
    unfold hasW
    rw [if_pos]
    · omega
    · rw [← h]; exact congrArg _ (funext fun j => (as3 _).symm)
  | r + 1, i, u, a, h => by
    simp only [cS]
    have := cS_has_pos (M := M) n t r (i + 1) (fun j => u j + cF p ((a 0).val : Int) * M i j) (fun l => a (l + 1)) (by
      rw [← h]
      refine congrArg _ (funext fun j => ?_)
      rw [cx_succ, cF_fin, as1])
    exact Nat.lt_of_lt_of_le this (nS_ge (f := fun c => cS M r (i + 1) (fun j => u j + cF p (c : Int) * M i j) (hasW n t)) (a 0).isLt)
theorem ad1 (u c m : Fin p) : u + c * m + m = u + (c + 1) * m := by grind
theorem ad2 (u m c : Fin p) (h : c = 0) : u + c * m = u := by grind
theorem pow7 {p r : Nat} (h7 : p ≤ 7) (hr : r ≤ 6) : p ^ r ≤ 117649 :=
  Nat.le_trans (Nat.pow_le_pow_left h7 r) (Nat.le_trans (Nat.pow_le_pow_right (by omega) hr) (by decide))
theorem each_1_spec {n k : Nat} (hn : n ≤ 8) (hp1 : 1 < p) (h7 : p ≤ 7) (hk : k ≤ 6) {Y : List (List Int)} (hY : MOk p k n Y) (c0 c1 c2 : Int) (c3 : List (List Int)) : ∀ r i fuel, i + r = k → r < fuel → ∀ (q0 w : List Int) (u : Nat → Fin p), Wd n w u → q0.length = n + 1 → (∀ t, t ≤ n → 0 ≤ q0.getD t 0 ∧ q0.getD t 0 + ((p ^ r : Nat) : Int) ≤ 4611686018427387904) →
    Gets (codes_each_1 fuel i c0 c1 Y p c2 c3 q0 w) (fun z => z.2 = w ∧ z.1.length = n + 1 ∧ ∀ t, t ≤ n → z.1.getD t 0 = q0.getD t 0 + ((cS (MF p Y) r i u (hasW n t) : Nat) : Int)) := by
  intro r
  induction r with
  | zero =>
    intro i fuel hi hf q0 w u hw hq hb
    obtain ⟨f, rfl⟩ : ∃ f, fuel = f + 1 := ⟨fuel - 1, by omega⟩
    rw [codes_each_1.eq_2]
    refine gIte (fun _ => ?_) fun c => absurd (by rw [hY.len]; omega) c
    refine gBind (Weights_1_spec hn hw hq fun t ht => by have := hb t ht; omega) fun z hz => gSome ⟨rfl, hz.1, hz.2⟩
  | succ r ih =>
    intro i fuel hi hf q0 w u hw hq hb
    obtain ⟨f, rfl⟩ : ∃ f, fuel = f + 1 := ⟨fuel - 1, by omega⟩
    rw [codes_each_1.eq_2]
    have hik : i < k := by omega
    have hrow := hY.row i hik
    refine gIte (fun c => absurd c (by rw [hY.len]; omega)) fun _ => ?_
    have hpw : ((p ^ (r + 1) : Nat) : Int) = (p : Int) * ((p ^ r : Nat) : Int) := by rw [Nat.pow_succ, Nat.mul_comm, Int.natCast_mul]
    refine gBind (R := fun z => z.2 = w ∧ z.1.length = n + 1 ∧ ∀ t, t ≤ n → z.1.getD t 0 = q0.getD t 0 + ((cS (MF p Y) (r + 1) i u (hasW n t) : Nat) : Int)) (gFor p (fun c (x : List Int × List Int × Int) => x.2.2 = (c : Int) ∧ Wd n x.2.1 (fun j => u j + cF p (c : Int) * MF p Y i j) ∧ x.1.length = n + 1 ∧ ∀ t, t ≤ n → x.1.getD t 0 = q0.getD t 0 + ((nS c (fun b => cS (MF p Y) r (i + 1) (fun j => u j + cF p (b : Int) * MF p Y i j) (hasW n t)) : Nat) : Int)) (Nat.zero_le _) ⟨rfl, ?_, hq, fun t ht => by simp [nS]⟩ ?_) ?_
    · have e : (fun j => u j + cF p ((0 : Nat) : Int) * MF p Y i j) = u := funext fun j => ad2 _ _ _ (by simpa using cF_zero (p := p))
      rw [e]; exact hw
    · rintro c ⟨q, w1, _⟩ hc ⟨rfl, hw1, hq1, hqv⟩
      dsimp only at hw1 hq1 hqv
      simp only [toNat_nat]
      refine gIte (fun hlt => ?_) fun hlt => ?_
      · have hcp : c < p := by omega
        have bnd : ∀ t, ((nS c (fun b => cS (MF p Y) r (i + 1) (fun j => u j + cF p (b : Int) * MF p Y i j) (hasW n t)) : Nat) : Int) + ((p ^ r : Nat) : Int) ≤ ((p ^ (r + 1) : Nat) : Int) := fun t => by
          have h1 := nS_le (n := c) (g := fun _ => p ^ r) fun b _ => cS_has_le (M := MF p Y) n t r (i + 1) (fun j => u j + cF p (b : Int) * MF p Y i j)
          rw [nS_const] at h1
          have h2 := Nat.mul_le_mul_right (p ^ r) (show c + 1 ≤ p by omega)
          rw [Nat.succ_mul] at h2
          rw [Nat.pow_succ, Nat.mul_comm (p ^ r) p]
          omega
        refine gChk (by omega) (gBind (ih (i + 1) f (by omega) (by omega) q w1 _ hw1 hq1 fun t ht => by
          have := hb t ht
          have := bnd t
          rw [hqv t ht]
          omega) ?_)
        rintro y ⟨y1, y2, y3⟩
        rw [y1]
        refine gChk (by rw [hY.len]; omega) ?_
        refine gBind (R := fun z => Wd n z (fun j => u j + cF p ((c + 1 : Nat) : Int) * MF p Y i j)) (gFor n (fun j (x : List Int × Int) => x.2 = (j : Int) ∧ x.1.length = n ∧ ∀ l, l < n → x.1.getD l 0 = if l < j then Int.tmod (w1.getD l 0 + ent Y i l) p else w1.getD l 0) (Nat.zero_le _) ⟨rfl, hw1.len, fun l _ => by rw [if_neg (by omega)]⟩ ?_) ?_
        · rintro j ⟨v, _⟩ hj ⟨rfl, g1, g2⟩
          simp only [toNat_nat] at g1 g2 ⊢
          simp only [hrow]
          refine gIte (fun h1 => ?_) fun h1 => gSome ?_
          · have hjn : j < n := by omega
            have b1 := hw1.bd j hjn
            have b2 := hY.bd i hik j hjn
            have e := g2 j hjn
            rw [if_neg (by omega)] at e
            unfold ent at b2
            simp only [e]
            refine gChk (by omega) (gChk ⟨by omega, by omega, by omega⟩ (gSome ⟨hjn, by simp, by rw [List.length_set]; exact g1, fun l hl => ?_⟩))
            rw [setI_getD _ (by omega)]
            by_cases c2 : l = j
            · subst c2
              rw [if_pos rfl, if_pos (by omega)]; rfl
            · rw [if_neg c2, g2 l hl]
              by_cases c3 : l < j
              · rw [if_pos c3, if_pos (by omega)]
              · rw [if_neg c3, if_neg (by omega)]
          · have ej : j = n := by omega
            subst ej
            refine ⟨g1, fun l hl => ?_, fun l hl => ?_⟩
            · have b1 := hw1.bd l hl
              have b2 := hY.bd i hik l hl
              rw [g2 l hl, if_pos hl]
              exact tmod_bd (by omega)
            · have b1 := hw1.bd l hl
              have b2 := hY.bd i hik l hl
              rw [g2 l hl, if_pos hl, cF_tmod (by omega), cF_add, hw1.val l hl, show ((c + 1 : Nat) : Int) = (c : Int) + 1 from rfl, cF_add, cF_one hp1]
              exact ad1 _ _ _
        · intro z hz
          refine gSome ⟨hcp, by simp, hz, y2, fun t ht => ?_⟩
          rw [y3 t ht, hqv t ht]
          simp only [nS]
          omega
      · have ec : c = p := by omega
        subst ec
        refine gSome ⟨?_, hq1, fun t ht => hqv t ht⟩
        have e : (fun j => u j + cF c (c : Int) * MF c Y i j) = u := funext fun j => ad2 _ _ _ cF_self
        rw [e] at hw1
        exact hw1.ext hw
    · rintro ⟨a, b⟩ ⟨z1, z2, z3⟩
      exact gSome ⟨z1, z2, z3⟩
/-- What each word's weight is, counted. -/
def CountsOf (p : Nat) [NeZero p] (r n : Nat) (X : List (List Int)) (out : List Int) : Prop := ∃ (k : Nat) (h : Nat → Nat) (Y : List (List Int)), RedOf p r n X k h Y ∧ p ^ k ≤ 20000 ∧ out.length = n + 1 ∧ ∀ t, t ≤ n → out.getD t 0 = ((cS (MF p Y) k 0 (fun _ => 0) (hasW n t) : Nat) : Int)
theorem rep0 (n j : Nat) : (List.replicate n (0 : Int)).getD j 0 = 0 := by
  rw [List.getD_eq_getElem?_getD, List.getElem?_replicate]
  split <;> rfl
theorem each_spec (hp : Fld p) (hp1 : 1 < p) (h7 : p ≤ 7) {r n : Nat} {X : List (List Int)} (hX : MOk p r n X) (hr : r ≤ 6) (hn : n ≤ 8) (hc : CM p n X) :
    Gets (codes_each p n X (List.replicate (n + 1) 0)) (fun y => (y.1 = 2 ∧ ∃ (k : Nat) (h : Nat → Nat) (Y : List (List Int)), RedOf p r n X k h Y ∧ 20000 < p ^ k) ∨ (y.1 = 0 ∧ CountsOf p r n X y.2)) := by
  unfold codes_each
  refine gBind (Reduced_spec hp h7 hX hr hn hc) ?_
  rintro _ ⟨k, h, Y, rfl, hR⟩
  dsimp only
  have hk6 : k ≤ 6 := Nat.le_trans hR.1 hr
  have hlen := hR.2.1.len
  refine gBind (R := fun n1 => n1 = ((p ^ k : Nat) : Int)) (gFor k (fun v (x : Int × Int) => x.2 = (v : Int) ∧ x.1 = ((p ^ v : Nat) : Int)) (Nat.zero_le _) ⟨rfl, by simp⟩ ?_) ?_
  · rintro v ⟨_, _⟩ hv ⟨rfl, rfl⟩
    simp only
    rw [hlen]
    refine gIte (fun c => ?_) fun c => gSome (by rw [show v = k by omega])
    have hvk : v < k := by omega
    have e : ((p ^ v : Nat) : Int) * (p : Int) = ((p ^ (v + 1) : Nat) : Int) := by rw [Nat.pow_succ, Int.natCast_mul]
    have := pow7 (r := v + 1) h7 (by omega)
    rw [e]
    exact gChk (by omega) (gChk (by omega) (gSome ⟨hvk, by simp, rfl⟩))
  · rintro _ rfl
    refine gIte (fun c => gSome (.inl ⟨rfl, k, h, Y, hR, by omega⟩)) fun c => gChk (by omega) ?_
    have e : ((n : Int)).toNat = n := rfl
    rw [e]
    refine gBind (each_1_spec hn hp1 h7 hk6 hR.2.1 _ _ _ _ k 0 12 (by omega) (by omega) (List.replicate (n + 1) 0) (List.replicate n 0) (fun _ => 0) ⟨by simp, fun j hj => by rw [rep0]; have := ppos (p := p); omega, fun j hj => by rw [rep0, cF_zero]⟩ (by simp) fun t ht => by
      rw [rep0]
      have := pow7 (r := k) h7 hk6
      omega) ?_
    rintro y ⟨y1, y2, y3⟩
    exact gSome (.inr ⟨rfl, k, h, Y, hR, by omega, y2, fun t ht => by rw [y3 t ht, rep0, Int.zero_add]⟩)
theorem Weights_spec (hp : Fld p) (hp1 : 1 < p) (h7 : p ≤ 7) {r n : Nat} {X : List (List Int)} (hX : MOk p r n X) (hr : r ≤ 6) (hn : n ≤ 8) (hc : CM p n X) :
    Gets (codes_Weights p n X) (fun y => (y.2 = 2 ∧ ∃ (k : Nat) (h : Nat → Nat) (Y : List (List Int)), RedOf p r n X k h Y ∧ 20000 < p ^ k) ∨ (y.2 = 0 ∧ CountsOf p r n X y.1)) := by
  unfold codes_Weights
  refine gBind (CM.good hc) ?_
  rintro _ rfl
  refine gIte (fun q => absurd rfl q) fun _ => gChk (by omega) ?_
  rw [show ((n : Int) + 1).toNat = n + 1 from rfl]
  refine gBind (each_spec hp hp1 h7 hX hr hn hc) fun y hy => ?_
  rcases hy with ⟨hy, hB⟩ | ⟨hy, hC⟩
  · exact gIte (fun _ => gSome (.inl ⟨hy, hB⟩)) fun q => absurd (by rw [hy]; decide) q
  · exact gIte (fun q => absurd hy q) fun _ => gSome (.inr ⟨rfl, hC⟩)
theorem Weights_bad {P C : Int} {X : List (List Int)} (h : ¬ CM P C X) : Gets (codes_Weights P C X) (fun y => y.2 ≠ 0) := by
  unfold codes_Weights
  exact gBind (CM.bad h) fun e he => gIte (fun q => gSome he) fun q => absurd he q
theorem Distance_bad {P C : Int} {X : List (List Int)} (h : ¬ CM P C X) : Gets (codes_Distance P C X) (fun y => y.2 ≠ 0 ∧ y.1 = 0) := by
  unfold codes_Distance
  exact gBind (Weights_bad h) fun y hy => gIte (fun q => gSome ⟨hy, rfl⟩) fun q => absurd hy q
theorem Distance_spec (hp : Fld p) (hp1 : 1 < p) (h7 : p ≤ 7) {r n : Nat} {X : List (List Int)} (hX : MOk p r n X) (hr : r ≤ 6) (hn : n ≤ 8) (hc : CM p n X) :
    Gets (codes_Distance p n X) (fun y => (y.2 ≠ 0 ∧ y.1 = 0 ∧ ((∃ (k : Nat) (h : Nat → Nat) (Y : List (List Int)), RedOf p r n X k h Y ∧ 20000 < p ^ k) ∨ ∃ o, CountsOf p r n X o ∧ ∀ t, 0 < t → t ≤ n → ¬ 0 < o.getD t 0)) ∨ (y.2 = 0 ∧ ∃ (d : Nat) (o : List Int), y.1 = (d : Int) ∧ 0 < d ∧ d ≤ n ∧ CountsOf p r n X o ∧ 0 < o.getD d 0 ∧ ∀ t, 0 < t → t < d → ¬ 0 < o.getD t 0)) := by
  unfold codes_Distance
  refine gBind (Weights_spec hp hp1 h7 hX hr hn hc) fun y hy => ?_
  rcases hy with ⟨hy, hB⟩ | ⟨hy, hC⟩
  · exact gIte (fun _ => gSome (.inl ⟨by rw [hy]; decide, rfl, .inl hB⟩)) fun q => absurd (by rw [hy]; decide) q
  refine gIte (fun q => absurd hy q) fun _ => ?_
  obtain ⟨k, h, Y, hR, hk, hl, hv⟩ := id hC
  refine gBind (R := fun z => match z with | .inl _ => ∀ t, 0 < t → t ≤ n → ¬ 0 < y.1.getD t 0 | .inr r => r.2 = 0 ∧ ∃ d : Nat, r.1 = (d : Int) ∧ 0 < d ∧ d ≤ n ∧ 0 < y.1.getD d 0 ∧ ∀ t, 0 < t → t < d → ¬ 0 < y.1.getD t 0) (gFor (n + 1) (fun v (x : Int) => x = (v : Int) ∧ ∀ t, 0 < t → t < v → ¬ 0 < y.1.getD t 0) (Nat.zero_le _) ⟨rfl, fun t _ h => absurd h (by omega)⟩ ?_) ?_
  · rintro v _ hv1 ⟨rfl, hI⟩
    simp only [toNat_nat, hl]
    refine gIte (fun c => gChk (by omega) (gIte (fun q => gSome ⟨rfl, v, rfl, by omega, by omega, q.2, hI⟩) fun q => gChk (by omega) (gSome ⟨by omega, by simp, fun t h0 h1 => ?_⟩))) fun c => gSome fun t h0 h1 => hI t h0 (by omega)
    by_cases e : t = v
    · subst e
      exact fun w => q ⟨by omega, w⟩
    · exact hI t h0 (by omega)
  · rintro (u | z) hz
    · exact gSome (.inl ⟨by decide, rfl, .inr ⟨y.1, hC, hz⟩⟩)
    · obtain ⟨z1, d, z2, z3, z4, z5, z6⟩ := hz
      exact gSome (.inr ⟨z1, d, y.1, z2, z3, z4, hC, z5, z6⟩)
end
end Go.SH
