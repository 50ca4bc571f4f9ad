/-
 The search for ways, vertices reached, cuts: what the code's plain functions answer. Conditions: a graph.
-/
import Derived.Test.YtlpikingpnenkaaLmG
set_option linter.unusedSimpArgs false
set_option linter.unusedVariables false
namespace Go.SH
open Go Go.AX
section
variable {N s t : Nat} {E : List (Int × Int)}
theorem edge_mem (h : CG (N : Int) E) (a b : Nat) : ((a : Int), (b : Int)) ∈ E ↔ Edge E a b := by
 have he := h.ends.2
 constructor
 ·intro hm
  obtain ⟨k, hk, e⟩ := List.getElem_of_mem hm
  have e' : E.getD k (0, 0) = ((a : Int), (b : Int)) := by rw [List.getD_eq_getElem?_getD, List.getElem?_eq_getElem hk]; exact e
  refine ⟨k, hk, ?_, ?_⟩
  ·unfold hA; rw [e']; rfl
  ·unfold hB; rw [e']; rfl
 ·rintro ⟨k, hk, rfl, rfl⟩
  obtain ⟨h1, h2⟩ := he k hk
  rw [← h1, ← h2]
  have : E.getD k (0, 0) = E[k] := by rw [List.getD_eq_getElem?_getD, List.getElem?_eq_getElem hk]; rfl
  rw [this]
  exact List.getElem_mem hk
theorem Edge.lt (h : CG (N : Int) E) {a b : Nat} (he : Edge E a b) : a < N ∧ b < N := by
 obtain ⟨k, hk, rfl, rfl⟩ := he
 exact h.ends.1 k hk
/-! ### vertices reached -/
/-- Closed along edges, but for C. -/
def ClosE (E : List (Int × Int)) (C W : Nat) : Prop := ∀ a b, W.testBit a = true → Edge E a b → C.testBit b = false → W.testBit b = true
theorem reached_spec (h : CG (N : Int) E) (hs : s < 2 ^ N) (C : Nat) : Gets (links_reached N E (s : Int) (C : Int)) (fun y => ∃ R : Nat, y = (R : Int) ∧ R < 2 ^ N ∧ Inc (dif s C) R ∧ ClosE E C R ∧ ∀ W, Inc (dif s C) W → ClosE E C W → Inc R W) := by
 have hn7 := h.n7
 have he8 := h.e8
 have hN1 := h.n1
 unfold links_reached
 refine gBind (R := fun y => ∃ R : Nat, y = (R : Int) ∧ R < 2 ^ N ∧ Inc (dif s C) R ∧ ClosE E C R ∧ ∀ W, Inc (dif s C) W → ClosE E C W → Inc R W)
  (gFor N (fun k (x : Int × Int) => x.2 = (k : Int) ∧ ∃ R : Nat, x.1 = (R : Int) ∧ R < 2 ^ N ∧ Inc (dif s C) R ∧ (ClosE E C R ∨ k ≤ cnt N R) ∧ ∀ W, Inc (dif s C) W → ClosE E C W → Inc R W) (Nat.zero_le _) ⟨rfl, dif s C, dif_nat s C, dif_lt hs, Inc.refl _, .inr (Nat.zero_le _), fun W hW _ => hW⟩ ?_) fun y hy => gSome hy
 rintro k ⟨_, _⟩ hk ⟨rfl, R, rfl, hR, hi, hcl, hW⟩
 dsimp only
 refine gIte (fun h1 => ?_) fun h1 => gSome ⟨R, rfl, hR, hi, hcl.elim id fun q a b ha hed hb => ?_, hW⟩
 ·have hkN : k < N := by omega
  refine gBind (R := fun y => ∃ R' : Nat, y = (R' : Int) ∧ R' < 2 ^ N ∧ Inc R R' ∧ (R' = R → ClosE E C R) ∧ ∀ W, Inc (dif s C) W → ClosE E C W → Inc R' W)
   (gFor E.length (fun j (x : Int × Int) => x.2 = (j : Int) ∧ ∃ R' : Nat, x.1 = (R' : Int) ∧ R' < 2 ^ N ∧ Inc R R' ∧ (R' = R → ∀ i, i < j → R.testBit (hA E i) = true → C.testBit (hB E i) = false → R.testBit (hB E i) = true) ∧ ∀ W, Inc (dif s C) W → ClosE E C W → Inc R' W) (Nat.zero_le _) ⟨rfl, R, rfl, hR, Inc.refl _, fun _ i hi' => absurd hi' (Nat.not_lt_zero _), hW⟩ ?_) ?_
  ·rintro j ⟨_, _⟩ hj ⟨rfl, R', rfl, hR', hi', hc', hW'⟩
   dsimp only
   refine gIte (fun h2 => ?_) fun h2 => gSome ⟨R', rfl, hR', hi', fun e a b ha hed hb => ?_, hW'⟩
   ·have hjl : j < E.length := by omega
    obtain ⟨e1, e2⟩ := h.ends.2 j hjl
    obtain ⟨l1, l2⟩ := h.ends.1 j hjl
    refine gChk (by omega) ?_
    simp only [toNat_nat, e1, e2]
    refine gChk (by omega) ?_
    have hbit : iand ((R' : Int) / 2 ^ hA E j) 1 = if R'.testBit (hA E j) then 1 else 0 := by have := bit_nat R' (hA E j); rw [toNat_nat] at this; exact this
    rw [hbit]
    refine gIte (fun c => ?_) fun c => gSome ⟨hjl, by simp, R', rfl, hR', hi', fun e i hij h1 h2 => ?_, hW'⟩
    ·have hb : R'.testBit (hA E j) = true := by
      cases q : R'.testBit (hA E j) with
      | true => rfl
      | false => rw [q] at c; simp at c
     refine gChk (by omega) ?_
     rw [shl_nat', dif_nat, or_nat]
     have hb2 : ∀ i, (R' ||| dif (2 ^ hB E j) C).testBit i = true ↔ R'.testBit i = true ∨ (hB E j = i ∧ C.testBit i = false) := fun i => by
      rw [Nat.testBit_or, testBit_dif, testBit_pow, Bool.or_eq_true, Bool.and_eq_true, decide_eq_true_eq, Bool.not_eq_true']
     refine gSome ⟨hjl, by simp, R' ||| dif (2 ^ hB E j) C, rfl, or_lt hR' (dif_lt (Nat.pow_lt_pow_right (by omega) l2)), fun i hi2 => (hb2 i).2 (.inl (hi' i hi2)), fun e i hij g1 g2 => ?_, fun W w1 w2 i hi2 => ?_⟩
     ·rw [← e]
      rcases Nat.lt_or_ge i j with q | q
      ·refine (hb2 _).2 (.inl ?_)
       have hsub : R' = R := set_ext hR' hR fun x _ => by
        rw [Bool.eq_iff_iff]
        exact ⟨fun z => by rw [← e]; exact (hb2 x).2 (.inl z), hi' x⟩
       rw [hsub]
       exact hc' hsub i q g1 g2
      ·have : i = j := by omega
       subst this
       exact (hb2 _).2 (.inr ⟨rfl, g2⟩)
     ·rcases (hb2 i).1 hi2 with q | ⟨rfl, q⟩
      ·exact hW' W w1 w2 i q
      ·exact w2 _ _ (hW' W w1 w2 _ hb) ⟨j, hjl, rfl, rfl⟩ q
    ·rcases Nat.lt_or_ge i j with q | q
     ·exact hc' e i q h1 h2
     ·have : i = j := by omega
      subst this
      subst e
      rw [h1] at c
      exact absurd rfl c
   ·obtain ⟨i, i1, rfl, rfl⟩ := hed
    exact hc' e i (by omega) ha hb
  ·rintro _ ⟨R', rfl, hR', hi', hc', hW'⟩
   refine gSome ⟨hkN, by simp, R', rfl, hR', fun i q => hi' i (hi i q), ?_, hW'⟩
   rcases Classical.em (R' = R) with e | e
   ·rw [e]; exact .inl (hc' e)
   ·rcases hcl with q | q
    ·exfalso
     refine e (set_ext hR' hR fun x _ => ?_)
     rw [Bool.eq_iff_iff]
     exact ⟨hW' R hi q x, hi' x⟩
    ·right
     obtain ⟨x, x1, x2⟩ : ∃ x, R'.testBit x = true ∧ R.testBit x = false := by
      refine Classical.byContradiction fun hno => e (set_ext hR' hR fun x _ => ?_)
      rw [Bool.eq_iff_iff]
      refine ⟨fun z => ?_, hi' x⟩
      cases w : R.testBit x with
      | true => rfl
      | false => exact absurd ⟨x, z, w⟩ hno
     have hc := cnt_add (bit_lt hR' x1) x2
     have hm : cnt N (R ||| 2 ^ x) ≤ cnt N R' := cnt_mono fun i _ z => by
      rcases (bit_add _ _ _).1 z with w | rfl
      ·exact hi' i w
      ·exact x1
     omega
 ·have hb' := (Edge.lt h hed).2
  cases q2 : R.testBit b with
  | true => rfl
  | false =>
   have := cnt_add hb' q2
   have := cnt_le N (R ||| 2 ^ b)
   omega
theorem Paths_spec (h : CG (N : Int) E) (hs : s < 2 ^ N) (C W : Nat) (h1 : Inc (dif s C) W) (h2 : ClosE E C W) : Gets (rotaref_Paths N E (s : Int) (C : Int)) (fun y => ∃ R : Nat, y = (R : Int) ∧ Inc R W) := by
 have hn7 := h.n7
 unfold rotaref_Paths
 refine gBind (R := fun y => ∃ R : Nat, y = (R : Int) ∧ Inc R W)
  (gLoop (fun x => ∃ R : Nat, x = (R : Int) ∧ R < 2 ^ N ∧ Inc R W) (fun x => N - cnt N x.toNat) ⟨dif s C, dif_nat s C, dif_lt hs, h1⟩ ?_) fun y hy => gSome hy
 rintro _ ⟨R, rfl, hR, hW⟩
 refine gBind (R := fun y => ∃ R' : Nat, y = (R' : Int) ∧ R' < 2 ^ N ∧ Inc R R' ∧ Inc R' W)
  (gFor E.length (fun j (x : Int × Int) => x.2 = (j : Int) ∧ ∃ R' : Nat, x.1 = (R' : Int) ∧ R' < 2 ^ N ∧ Inc R R' ∧ Inc R' W) (Nat.zero_le _) ⟨rfl, R, rfl, hR, Inc.refl _, hW⟩ ?_) ?_
 ·rintro j ⟨_, _⟩ hj ⟨rfl, R', rfl, hR', hi', hW'⟩
  dsimp only
  refine gIte (fun q => ?_) fun q => gSome ⟨R', rfl, hR', hi', hW'⟩
  have hjl : j < E.length := by omega
  obtain ⟨e1, e2⟩ := h.ends.2 j hjl
  obtain ⟨l1, l2⟩ := h.ends.1 j hjl
  refine gChk (by omega) ?_
  simp only [toNat_nat, e1, e2, rotaref_In_nat, Option.bind_some]
  have hel := h.e8
  refine gBind (R := fun b => R.testBit (hA E j) = true → b = C.testBit (hB E j)) ?_ fun b hb => ?_
  ·cases q2 : R.testBit (hA E j) with
   | true => exact gSome fun _ => rfl
   | false => exact gSome fun w => by cases w
  ·refine gIte (fun c => gChk (by omega) (gChk (by omega) ?_)) fun c => gChk (by omega) (gSome ⟨hjl, by simp, R', rfl, hR', hi', hW'⟩)
   rw [shl_nat', or_nat]
   refine gSome ⟨hjl, by simp, R' ||| 2 ^ hB E j, rfl, or_lt hR' (Nat.pow_lt_pow_right (by omega) l2), fun i hi => (bit_add _ _ _).2 (.inl (hi' i hi)), fun i hi => ?_⟩
   rcases (bit_add _ _ _).1 hi with w | rfl
   ·exact hW' i w
   ·have hcb : C.testBit (hB E j) = false := by
     have := hb c.1
     cases w : C.testBit (hB E j) with
     | false => rfl
     | true => rw [w] at this; exact absurd this c.2
    exact h2 _ _ (hW _ c.1) ⟨j, hjl, rfl, rfl⟩ hcb
 ·rintro _ ⟨R', rfl, hR', hi', hW'⟩
  refine gIte (fun e => gSome ⟨R, rfl, hW⟩) fun e => gSome ⟨⟨R', rfl, hR', hW'⟩, ?_⟩
  obtain ⟨x, x1, x2⟩ : ∃ x, R'.testBit x = true ∧ R.testBit x = false := by
   refine Classical.byContradiction fun hno => e (congrArg Nat.cast (set_ext hR' hR fun x _ => ?_))
   rw [Bool.eq_iff_iff]
   refine ⟨fun z => ?_, hi' x⟩
   cases w : R.testBit x with
   | true => rfl
   | false => exact absurd ⟨x, z, w⟩ hno
  have hc := cnt_add (bit_lt hR' x1) x2
  have hm : cnt N (R ||| 2 ^ x) ≤ cnt N R' := cnt_mono fun i _ z => by
   rcases (bit_add _ _ _).1 z with w | rfl
   ·exact hi' i w
   ·exact x1
  have := cnt_le N R'
  simp only [toNat_nat]
  omega
/-! ### the least cut -/
/-- C separates s from t. -/
def Sep (E : List (Int × Int)) (s t C : Nat) : Prop := ∃ W, Inc (dif s C) W ∧ ClosE E C W ∧ ∀ i, W.testBit i = true → t.testBit i = false
theorem and_zero {a b : Nat} : a &&& b = 0 ↔ ∀ i, a.testBit i = true → b.testBit i = false := by
 constructor
 ·intro h i hi
  have := congrArg (fun x => x.testBit i) h
  simp only [Nat.testBit_and, hi, Nat.zero_testBit, Bool.true_and] at this
  exact this
 ·intro h
  refine Nat.eq_of_testBit_eq fun i => ?_
  rw [Nat.testBit_and, Nat.zero_testBit]
  cases q : a.testBit i with
  | false => rfl
  | true => rw [h i q]; rfl
theorem Cut_ok (h : CG (N : Int) E) (hs : s < 2 ^ N) (ht : t < 2 ^ N) : Gets (links_Cut N E (s : Int) (t : Int)) (fun r => r.2 = 0 ∧ ∃ C : Nat, r.1 = (C : Int) ∧ C < 2 ^ N ∧ Sep E s t C ∧ ∀ C', C' < 2 ^ N → Sep E s t C' → cnt N C ≤ cnt N C') := by
 have hn7 := h.n7
 have hn1 := h.n1
 have h256 := pow_le8 (n := N) (by omega)
 have hsz : ∀ c : Nat, c < 2 ^ N → links_size (c : Int) = some ((cnt N c : Nat) : Int) := fun c hc => by rw [links_size_nat (by omega), size_of_lt hc (by omega)]
 unfold links_Cut
 refine gBind (right_spec N E [(s : Int), (t : Int)]) fun e he => gIte (fun q => absurd (he.2 ⟨h, fun k hk => ?_⟩) q) fun _ => ?_
 ·rw [toNat_nat]
  rcases (show k = 0 ∨ k = 1 by simp at hk; omega) with rfl | rfl
  ·show 0 ≤ (s : Int) ∧ (s : Int) < _
   omega
  ·show 0 ≤ (t : Int) ∧ (t : Int) < _
   omega
 refine gChk (by omega) (gChk (by omega) ?_)
 simp only [toNat_nat, shl_nat']
 refine gBind (R := fun b => ∃ C : Nat, b = (C : Int) ∧ C < 2 ^ N ∧ Sep E s t C ∧ ∀ C', C' < 2 ^ N → Sep E s t C' → cnt N C ≤ cnt N C')
  (gFor (2 ^ N) (fun k (x : Int × Int × Int) => x.2.2 = (k : Int) ∧ ∃ C M : Nat, x.1 = (C : Int) ∧ x.2.1 = (M : Int) ∧ C < 2 ^ N ∧ (M ≤ N → Sep E s t C ∧ cnt N C = M) ∧ ∀ C', C' < k → Sep E s t C' → M ≤ cnt N C') (Nat.zero_le _) ⟨rfl, 0, N + 1, rfl, by simp, Nat.pow_pos (by omega), fun q => absurd q (by omega), fun C' hC' => absurd hC' (Nat.not_lt_zero _)⟩ ?_) ?_
 ·rintro k ⟨_, _, _⟩ hk ⟨rfl, C, M, rfl, rfl, hC, hM, hall⟩
  dsimp only
  refine gIte (fun h1 => ?_) fun h1 => gSome ?_
  ·have hkN : k < 2 ^ N := by omega
   refine gBindE (hsz k hkN) ?_
   refine gBind (R := fun y => cnt N k < M → ∃ R : Nat, y = (R : Int) ∧ (R &&& t = 0 ↔ Sep E s t k)) ?_ fun y hy => ?_
   ·by_cases c : ((cnt N k : Nat) : Int) < (M : Int)
    ·rw [if_pos c]
     refine (reached_spec h hs k).mono ?_
     rintro _ ⟨R, rfl, r1, r2, r3, r4⟩ _
     refine ⟨R, rfl, and_zero.trans ⟨fun q => ⟨R, r2, r3, q⟩, ?_⟩⟩
     rintro ⟨W, w1, w2, w3⟩ i hi
     exact w3 i (r4 W w1 w2 i hi)
    ·rw [if_neg c]
     exact gSome fun q => absurd (by omega) c
   ·refine gIte (fun c => ?_) fun c => gSome ⟨hkN, by simp, C, M, rfl, rfl, hC, hM, fun C' hC' hS => ?_⟩
    ·obtain ⟨R, rfl, hR⟩ := hy (by omega)
     have hS : Sep E s t k := hR.1 (by have := c.2; rw [and_nat] at this; omega)
     refine gBindE (hsz k hkN) (gSome ⟨hkN, by simp, k, cnt N k, rfl, rfl, hkN, fun _ => ⟨hS, rfl⟩, fun C' hC' hS' => ?_⟩)
     rcases Nat.lt_or_ge C' k with q | q
     ·have := hall C' q hS'; omega
     ·have : C' = k := by omega
      subst this; exact Nat.le_refl _
    ·rcases Nat.lt_or_ge C' k with q | q
     ·exact hall C' q hS
     ·have : C' = k := by omega
      subst this
      rcases Nat.lt_or_ge (cnt N C') M with w | w
      ·obtain ⟨R, rfl, hR⟩ := hy w
       exact absurd ⟨by omega, by rw [and_nat, hR.2 hS]; rfl⟩ c
      ·exact w
  ·have hfull : Sep E s t (2 ^ N - 1) := ⟨0, fun i hi => by
    rw [testBit_dif, Bool.and_eq_true, Bool.not_eq_true'] at hi
    have := bit_lt hs hi.1
    rw [Nat.testBit_two_pow_sub_one] at hi
    simp at hi; omega, fun a b ha => by simp at ha, fun i hi => by simp at hi⟩
   have hMN : M ≤ N := Nat.le_trans (hall (2 ^ N - 1) (by have : 0 < 2 ^ N := Nat.pow_pos (by omega); omega) hfull) (cnt_le _ _)
   obtain ⟨m1, m2⟩ := hM hMN
   exact ⟨C, rfl, hC, m1, fun C' hC' hS => by rw [m2]; exact hall C' (by omega) hS⟩
 ·rintro _ ⟨C, rfl, hC, hS, hall⟩
  exact gSome ⟨rfl, C, rfl, hC, hS, hall⟩
end
end Go.SH
