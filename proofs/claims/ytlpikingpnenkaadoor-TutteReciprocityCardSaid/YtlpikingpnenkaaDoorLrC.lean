/-
 The law TutteReciprocity (STANLEY) as the program computes it. Conditions: none.
-/
import Derived.Test.YtlpikingpnenkaaDoorLBg
import Derived.Test.YtlpikingpnenkaaDoorLrB
import Derived.Test.YtlpikingpnenkaaDoorSkTutteReciprocity
import Derived.Lib.ItoaNum
set_option linter.unusedSimpArgs false
set_option linter.unusedVariables false
namespace Go.SH
open Go Go.AX
/-- A graph as the program takes it. -/
structure Gra (N : Nat) (E : List (Int × Int)) : Prop where
 n1 : 1 ≤ N
 n7 : N ≤ 7
 e8 : E.length ≤ 8
 ends : ∀ k, k < E.length → 0 ≤ (E.getD k (0, 0)).1 ∧ 0 ≤ (E.getD k (0, 0)).2 ∧ (E.getD k (0, 0)).1 < N ∧ (E.getD k (0, 0)).2 < N
theorem CheckGraph_spec (n : Int) (E : List (Int × Int)) : Gets (kinds_CheckGraph n E) (fun r => r = 0 → ∃ N : Nat, n = N ∧ Gra N E) := by
 unfold kinds_CheckGraph
 refine gIte (fun _ => gSome (by simp)) fun h => ?_
 obtain ⟨N, rfl⟩ := Int.eq_ofNat_of_zero_le (show 0 ≤ n by omega)
 refine gBind (R := fun z => match z with | .inl _ => ∀ k, k < E.length → 0 ≤ (E.getD k (0, 0)).1 ∧ 0 ≤ (E.getD k (0, 0)).2 ∧ (E.getD k (0, 0)).1 < N ∧ (E.getD k (0, 0)).2 < N | .inr r => r ≠ 0)
  (gFor E.length (fun k v => v = (k : Int) ∧ ∀ j, j < k → 0 ≤ (E.getD j (0, 0)).1 ∧ 0 ≤ (E.getD j (0, 0)).2 ∧ (E.getD j (0, 0)).1 < N ∧ (E.getD j (0, 0)).2 < N) (Nat.zero_le _) ⟨rfl, fun j hj => absurd hj (Nat.not_lt_zero _)⟩ ?_) ?_
 ·rintro k _ hk ⟨rfl, hb⟩
  simp only [toNat_nat]
  refine gIte (fun h1 => gChk (by omega) (gIte (fun _ => gSome (show (1 : Int) ≠ 0 by omega)) fun h2 => gSome ⟨by omega, by simp, fun j hj => ?_⟩)) fun h1 => gSome fun j hj => hb j (by omega)
  rcases Nat.lt_or_ge j k with c | c
  ·exact hb j c
  ·have : j = k := by omega
   subst this; omega
 ·rintro (u | rr) hz
  ·exact gSome fun _ => ⟨N, rfl, by omega, by omega, by omega, hz⟩
  ·exact gSome fun e => absurd e hz
theorem Gra.eu {N : Nat} {E : List (Int × Int)} (h : Gra N E) {k : Nat} (hk : k < E.length) : (E.getD k (0, 0)).1 = (eU E k : Int) ∧ (E.getD k (0, 0)).2 = (eV E k : Int) ∧ eU E k < N ∧ eV E k < N := by
 have := h.ends k hk
 unfold eU eV; omega
theorem Gra.en {N : Nat} {E : List (Int × Int)} (h : Gra N E) {k : Nat} (hk : k ≤ E.length) : Ends N E k := fun i hi => ⟨(h.eu (by omega)).2.2.1, (h.eu (by omega)).2.2.2⟩
/-! ### roots -/
def fnd (c : List Int) : Nat → Nat → Nat
 | 0, x => x
 | f + 1, x => if c.getD x 0 = (x : Int) then x else fnd c f (c.getD x 0).toNat
/-- The list points, within its length. -/
def Pts (N : Nat) (c : List Int) : Prop := c.length = N ∧ ∀ x, x < N → 0 ≤ c.getD x 0 ∧ c.getD x 0 < N
theorem find_spec {N : Nat} {c : List Int} (h : Pts N c) : ∀ (f x : Nat), x < N → c.getD (fnd c f x) 0 = (fnd c f x : Int) → tutte_parted_1 (x : Int) c = some ((fnd c f x : Nat) : Int) := by
 have key : ∀ (f x : Nat), x < N → c.getD (fnd c f x) 0 = (fnd c f x : Int) → loopM (ρ := Int) (fun (v1 : Int) =>
   chk ((0 ≤ v1 ∧ v1 < c.length)) <|
   if c.getD v1.toNat 0 ≠ v1 then
   chk ((0 ≤ v1 ∧ v1 < c.length)) <|
   some (.inl (c.getD v1.toNat 0))
   else
   some (.inr v1)) (x : Int) = some ((fnd c f x : Nat) : Int) := by
  intro f
  induction f with
  | zero =>
   intro x hx he
   simp only [fnd] at he ⊢
   refine loopM_inr ?_
   rw [chk_pos (by have := h.1; omega), toNat_nat, if_neg (by omega)]
  | succ f ih =>
   intro x hx he
   simp only [fnd] at he ⊢
   have hl := h.1
   by_cases q : c.getD x 0 = (x : Int)
   ·rw [if_pos q]
    refine loopM_inr ?_
    rw [chk_pos (by omega), toNat_nat, if_neg (by omega)]
   ·rw [if_neg q] at he ⊢
    have hb := h.2 x hx
    rw [← ih _ (by omega) he]
    rw [Int.toNat_of_nonneg hb.1]
    refine loopM_inl ?_
    rw [chk_pos (by omega), toNat_nat, if_pos q, chk_pos (by omega)]
 intro f x hx he
 unfold tutte_parted_1
 rw [key f x hx he]; rfl
theorem fnd_more {N : Nat} {c : List Int} : ∀ (f x : Nat), c.getD (fnd c f x) 0 = (fnd c f x : Int) → fnd c (f + 1) x = fnd c f x := by
 intro f
 induction f with
 | zero => intro x he; simp only [fnd] at he ⊢; rw [if_pos he]
 | succ f ih =>
  intro x he
  rw [fnd]
  by_cases q : c.getD x 0 = (x : Int)
  ·rw [if_pos q]; simp only [fnd]; rw [if_pos q]
  ·rw [if_neg q]
   rw [fnd, if_neg q] at he
   rw [ih _ he, fnd, if_neg q]
theorem fnd_set {N : Nat} {c : List Int} (h : Pts N c) {y y1 : Nat} (hy : y < N) (h1 : y1 < N) (e : c.getD y 0 = (y : Int)) (e1 : c.getD y1 0 = (y1 : Int)) (hne : y ≠ y1) :
  ∀ (f x : Nat), c.getD (fnd c f x) 0 = (fnd c f x : Int) → fnd (c.set y (y1 : Int)) (f + 1) x = if fnd c f x = y then y1 else fnd c f x := by
 have hl := h.1
 have s1 : (c.set y (y1 : Int)).getD y 0 = (y1 : Int) := getD_set_self (by omega) _
 have s2 : ∀ x, x ≠ y → (c.set y (y1 : Int)).getD x 0 = c.getD x 0 := fun x hx => getD_set_ne (fun q => hx q.symm) _
 have base : ∀ (f x : Nat), c.getD x 0 = (x : Int) → fnd (c.set y (y1 : Int)) (f + 1) x = if x = y then y1 else x := by
  intro f x hx
  rw [fnd]
  by_cases q : x = y
  ·subst q
   rw [s1, if_neg (by omega), if_pos rfl, toNat_nat]
   cases f with
   | zero => rfl
   | succ f => rw [fnd, s2 _ (fun q => hne q.symm), if_pos e1]
  ·rw [s2 x q, if_pos hx, if_neg q]
 intro f
 induction f with
 | zero => intro x he; simp only [fnd] at he ⊢; exact base 0 x he
 | succ f ih =>
  intro x he
  by_cases q : c.getD x 0 = (x : Int)
  ·have fe : fnd c (f + 1) x = x := by rw [fnd, if_pos q]
   rw [base (f + 1) x q, fe]
  ·have hxy : x ≠ y := fun r => q (by rw [r]; exact e)
   have fe : fnd c (f + 1) x = fnd c f (c.getD x 0).toNat := by rw [fnd, if_neg q]
   rw [fe] at he ⊢
   rw [fnd, s2 x hxy, if_neg q, ih _ he]
/-- What stands behind the first k edges. -/
def Rts (N : Nat) (E : List (Int × Int)) (s k : Nat) (c : List Int) : Prop := Pts N c ∧ ∀ x, x < N → fnd c k x = lab E s k x ∧ c.getD (lab E s k x) 0 = (lab E s k x : Int) ∧ lab E s k x < N
/-- How many of the first k are in s. -/
def cn (s : Nat) : Nat → Nat
 | 0 => 0
 | k + 1 => if s.testBit k = true then cn s k + 1 else cn s k
theorem parted_spec {N : Nat} {E : List (Int × Int)} (h : Gra N E) (s : Nat) : Gets (tutte_parted N E (s : Int)) (fun r => r = (N : Int) + nu E s E.length - cn s E.length) := by
  have h8 := h.e8
  have h7 := h.n7
  unfold tutte_parted
  refine gChk (by omega) ?_
  refine gBind (R := fun c : List Int => Rts N E s 0 c) (gFor N (fun k z => z.2 = (k : Int) ∧ z.1.length = N ∧ ∀ j, j < k → z.1.getD j 0 = (j : Int)) (Nat.zero_le _) ⟨rfl, by simp, fun j hj => absurd hj (Nat.not_lt_zero _)⟩ ?_) ?_
  · rintro k ⟨c, v⟩ hk ⟨e1, e2, e3⟩
    dsimp only at e1 e2 e3 ⊢
    subst e1
    simp only [List.length_replicate, toNat_nat]
    refine gIte (fun q => gChk (by omega) (gSome ⟨by omega, by simp, by simp [e2], fun j hj => ?_⟩)) fun q => gSome ?_
    · rcases Nat.lt_or_ge j k with r | r
      · rw [getD_set_ne (by omega)]; exact e3 j r
      · have : j = k := by omega
        subst this; exact getD_set_self (by omega) _
    · have : k = N := by omega
      subst this
      exact ⟨⟨e2, fun x hx => by rw [e3 x hx]; omega⟩, fun x hx => ⟨rfl, e3 x hx, hx⟩⟩
  · intro root1 h0
    refine gBind (R := fun n : Int => n = (N : Int) + nu E s E.length - cn s E.length) (gFor E.length (fun k z => z.2.2 = (k : Int) ∧ Rts N E s k z.1 ∧ z.2.1 = (N : Int) + nu E s k - cn s k ∧ (nu E s k ≤ k) ∧ cn s k ≤ k) (Nat.zero_le _) ⟨rfl, h0, by simp [nu, cn], Nat.le_refl _, Nat.le_refl _⟩ ?_) fun n hn => gSome hn
    rintro k ⟨c, n, v⟩ hk ⟨e1, ⟨hp, hr⟩, e3, e4, e5⟩
    dsimp only at e1 hp hr e3 ⊢
    subst e1 e3
    have hl := hp.1
    refine gIte (fun q => ?_) fun q => gSome (by have : k = E.length := by omega
                                                 subst this; rfl)
    have hk' : k < E.length := by omega
    obtain ⟨u1, u2, u3, u4⟩ := h.eu hk'
    refine gChk (by omega) ?_
    rw [toNat_nat, u1, u2]
    have ru := hr _ u3
    have rv := hr _ u4
    have fu := find_spec hp k _ u3 (by rw [ru.1]; exact ru.2.1)
    have fv := find_spec hp k _ u4 (by rw [rv.1]; exact rv.2.1)
    rw [ru.1] at fu
    rw [rv.1] at fv
    refine gBindE fu (gBindE fv (gChk (by omega) ?_))
    have hbn := bit_nat s k
    rw [toNat_nat] at hbn
    rw [hbn]
    have keep : ¬ (s.testBit k = true ∧ lab E s k (eU E k) ≠ lab E s k (eV E k)) → Rts N E s (k + 1) c := fun hh => by
      refine ⟨hp, fun x hx => ?_⟩
      have r := hr x hx
      rw [lab_keep hh]
      refine ⟨?_, r.2.1, r.2.2⟩
      rw [fnd_more (N := N) k x (by rw [r.1]; exact r.2.1), r.1]
    by_cases hb : s.testBit k = true
    · by_cases hne : lab E s k (eU E k) = lab E s k (eV E k)
      · rw [if_neg (by rw [hne]; simp)]
        refine gSome ⟨by omega, by simp, keep (fun hh => hh.2 hne), ?_, ?_, ?_⟩
        · simp only [nu, cn]; rw [if_pos ⟨hb, hne⟩, if_pos hb]; push_cast; omega
        · simp only [nu]; rw [if_pos ⟨hb, hne⟩]; omega
        · simp only [cn]; rw [if_pos hb]; omega
      · rw [if_pos ⟨by rw [if_pos hb], by omega⟩]
        refine gChk (by omega) (gChk (by omega) (gSome ⟨by omega, by simp, ?_, ?_, ?_, ?_⟩))
        · dsimp only
          rw [toNat_nat]
          have st := fnd_set hp ru.2.2 rv.2.2 ru.2.1 rv.2.1 hne
          have s1 : (c.set (lab E s k (eU E k)) (lab E s k (eV E k) : Int)).getD (lab E s k (eU E k)) 0 = (lab E s k (eV E k) : Int) := getD_set_self (by omega) _
          have s2 : ∀ x, x ≠ lab E s k (eU E k) → (c.set (lab E s k (eU E k)) (lab E s k (eV E k) : Int)).getD x 0 = c.getD x 0 := fun x hx => getD_set_ne (fun q => hx q.symm) _
          have lx : ∀ x, lab E s (k + 1) x = if lab E s k x = lab E s k (eU E k) then lab E s k (eV E k) else lab E s k x := fun x => by
            simp only [lab]; rw [if_pos ⟨hb, hne⟩]
          refine ⟨⟨by simp [hl], fun x hx => ?_⟩, fun x hx => ?_⟩
          · by_cases q2 : x = lab E s k (eU E k)
            · subst q2; rw [s1]; have := rv.2.2; omega
            · rw [s2 x q2]; exact hp.2 x hx
          · have r := hr x hx
            have := st k x (by rw [r.1]; exact r.2.1)
            rw [lx, this, r.1]
            refine ⟨rfl, ?_, ?_⟩
            · split
              · rw [s2 _ (fun q => hne q.symm)]; exact rv.2.1
              · rw [s2 _ ‹_›]; exact r.2.1
            · split
              · exact rv.2.2
              · exact r.2.2
        · simp only [nu, cn]; rw [if_neg fun hh => hne hh.2, if_pos hb]; push_cast; omega
        · simp only [nu]; rw [if_neg fun hh => hne hh.2]; omega
        · simp only [cn]; rw [if_pos hb]; omega
    · rw [if_neg (by rw [if_neg hb]; simp)]
      refine gSome ⟨by omega, by simp, keep (fun hh => hb hh.1), ?_, ?_, ?_⟩
      · simp only [nu, cn]; rw [if_neg fun hh => hb hh.1, if_neg hb]
      · simp only [nu]; rw [if_neg fun hh => hb hh.1]; omega
      · simp only [cn]; rw [if_neg hb]; omega
theorem oc_tabC : ∀ a : Fin 256, oc (a.val : Int) = ((cn a.val 8 : Nat) : Int) := of_decide_eq_true (by kernel_rfl)
theorem cn_lt {s m : Nat} (h : s < 2 ^ m) : ∀ t, cn s (m + t) = cn s m := by
 intro t
 induction t with
 | zero => rfl
 | succ t ih =>
  rw [← Nat.add_assoc, cn, if_neg, ih]
  have : s < 2 ^ (m + t) := Nat.lt_of_lt_of_le h (Nat.pow_le_pow_right (by omega) (by omega))
  rw [Nat.testBit_lt_two_pow this]; simp
theorem size_spec {s m : Nat} (hm : m ≤ 8) (h : s < 2 ^ m) : tutte_size (s : Int) = some ((cn s m : Nat) : Int) := by
 have h2 : s < 256 := Nat.lt_of_lt_of_le h (Nat.pow_le_pow_right (n := 2) (by omega) hm)
 unfold tutte_size
 rw [chk_pos (by omega)]
 simp only [bits_OnesCount, Option.bind_some]
 have := oc_tabC ⟨s, h2⟩
 have e := cn_lt h (8 - m)
 rw [show m + (8 - m) = 8 by omega] at e
 rw [← e]; exact congrArg some this
theorem cn_le (s : Nat) : ∀ k, cn s k ≤ k := by
 intro k
 induction k with
 | zero => exact Nat.le_refl _
 | succ k ih => simp only [cn]; split <;> omega
theorem pval_set : ∀ (l : List Int) (i : Nat) (x q : Int), i < l.length → pval (l.set i (l.getD i 0 + x)) q = pval l q + x * q ^ i := by
 intro l
 induction l with
 | nil => intro i x q h; simp at h
 | cons a l ih =>
  intro i x q h
  cases i with
  | zero => simp only [List.set_cons_zero, pval, List.getD_cons_zero, Int.pow_zero]; omega
  | succ i =>
   simp only [List.set_cons_succ, pval, List.getD_cons_succ]
   rw [ih i x q (by simpa using h), Int.mul_add, Int.pow_succ]
   have : q * (x * q ^ i) = x * (q ^ i * q) := by rw [← Int.mul_assoc, Int.mul_comm q x, Int.mul_assoc, Int.mul_comm q]
   rw [this]; omega
theorem pval_rep (n : Nat) (q : Int) : pval (List.replicate n 0) q = 0 := by
 induction n with
 | zero => rfl
 | succ n ih => rw [List.replicate_succ, pval, ih]; simp
theorem pval_drop (c : List Int) (q : Int) {k : Nat} (hk : k < c.length) : pval (c.drop k) q = c.getD k 0 + q * pval (c.drop (k + 1)) q := by
 rw [List.drop_eq_getElem_cons hk, pval, List.getD_eq_getElem?_getD, List.getElem?_eq_getElem hk]; rfl
theorem val_bd {x q v : Int} {m : Nat} (hx : (x.natAbs : Int) < 18446744073709551616) (hq : (q.natAbs : Int) < 18446744073709551616) (hv : (v.natAbs : Int) < wB m) : ((v * q).natAbs : Int) < wB (m + 2) ∧ ((x + q * v).natAbs : Int) < wB (m + 4) := by
 have e2 : wB (m + 2) = 18446744073709551616 * wB m := by rw [wBs, wBs]; omega
 have e4 : wB (m + 4) = 18446744073709551616 * wB (m + 2) := by rw [wBs, wBs]; omega
 have hp := wB_pos m
 have h1 : ((v * q).natAbs : Int) = (q.natAbs : Int) * (v.natAbs : Int) := by rw [Int.natAbs_mul, Nat.mul_comm]; simp
 have h2 : (q.natAbs : Int) * (v.natAbs : Int) ≤ 18446744073709551615 * (v.natAbs : Int) := Int.mul_le_mul_of_nonneg_right (by omega) (by omega)
 have h3 : ((q * v).natAbs : Int) = (q.natAbs : Int) * (v.natAbs : Int) := by rw [Int.natAbs_mul]; simp
 refine ⟨by omega, ?_⟩
 omega
theorem value_spec {c : List Int} {q : Int} (hc : ∀ i, i < c.length → -9223372036854775808 ≤ c.getD i 0 ∧ c.getD i 0 < 9223372036854775808) (hq : -9223372036854775808 ≤ q ∧ q < 9223372036854775808) (hl : c.length ≤ 1000) :
  Gets (rotakeep_value c q) (fun r => Bg r (pval c q)) := by
 unfold rotakeep_value
 refine gChk (by omega) ?_
 refine gBind (R := fun z : Bool × List Int => Bg z (pval c q)) (gLoop (fun s : Bool × List Int × Int => ∃ k : Nat, s.2.2 = (k : Int) - 1 ∧ k ≤ c.length ∧ Bg (s.1, s.2.1) (pval (c.drop k) q) ∧ ((pval (c.drop k) q).natAbs : Int) < wB (4 * (c.length - k) + 1)) (fun s => (s.2.2 + 1).toNat) ⟨c.length, rfl, Nat.le_refl _, ?_, ?_⟩ ?_) fun z hz => gSome hz
 ·rw [List.drop_length]; exact Bg.nil
 ·rw [List.drop_length]; exact wB_pos _
 ·rintro ⟨a, b, i⟩ ⟨k, hi, hk, hb, hw⟩
  dsimp only at hi hb hw ⊢
  subst hi
  refine gIte (fun h => ?_) fun h => gSome ?_
  ·have hkc : k - 1 < c.length := by omega
   have e1 : ((k : Int) - 1).toNat = k - 1 := by omega
   have hx := hc (k - 1) hkc
   have pd := pval_drop c q hkc
   rw [show k - 1 + 1 = k by omega] at pd
   have bd := val_bd (x := c.getD (k - 1) 0) (q := q) (v := pval (c.drop k) q) (by omega) (by omega) hw
   have hln := hb.len hw
   have hq2 : (q.natAbs : Int) < wB 2 := by show _ < (4294967296 : Int) ^ 2; omega
   refine gBind (newInt_spec hq.1 hq.2) fun y hy => ?_
   refine gBind (mulI_spec (x := (a, b)) (y := (y.1, y.2)) hb hy (by show b.length < _; dsimp only at hln; omega) (by have := hy.len hq2; show y.2.length < _; omega)) fun y1 hy1 => ?_
   refine gChk (by omega) ?_
   rw [e1]
   refine gBind (newInt_spec hx.1 hx.2) fun y2 hy2 => ?_
   have hx2 : ((c.getD (k - 1) 0).natAbs : Int) < wB 2 := by show _ < (4294967296 : Int) ^ 2; omega
   have l1 := hy1.len bd.1
   have l2 := hy2.len hx2
   refine gBind (addI_spec (x := (y1.1.1, y1.1.2)) (y := (y2.1, y2.2)) hy1 hy2 (by show y1.1.2.length < _; omega) (by show y2.2.length < _; omega)) fun y3 hy3 => ?_
   have e2 : pval (c.drop k) q * q + c.getD (k - 1) 0 = pval (c.drop (k - 1)) q := by rw [pd, Int.mul_comm]; omega
   rw [e2] at hy3
   refine gChk (by omega) (gSome ⟨⟨k - 1, by show (k : Int) - 1 - 1 = _; omega, by omega, hy3, ?_⟩, ?_⟩)
   ·rw [pd, show 4 * (c.length - (k - 1)) + 1 = 4 * (c.length - k) + 1 + 4 by omega]
    exact bd.2
   ·show ((k : Int) - 1 - 1 + 1).toNat < ((k : Int) - 1 + 1).toNat; omega
  ·have : k = 0 := by omega
   subst this
   exact hb
theorem one_word {l : List Int} {n : Int} (h : Bwd l n) (h1 : n < 4294967296) : l = if n = 0 then [] else [n] := by
 obtain ⟨h2, h3, h4⟩ := h
 have hz := wv_zero h2 h3
 split
 ·exact hz.1 (by omega)
 ·have hl := wv_lenB (n := 1) h2 h3 (by rw [h4]; show n < (4294967296 : Int) ^ 1; omega)
  match l, hl, h4, hz with
  | [], _, h4, _ => simp [wv] at h4; omega
  | [x], _, h4, _ => simp [wv] at h4; rw [h4]
theorem small_ten {x : Int} (h0 : 0 ≤ x) (h1 : x < 4294967296) : rotabig_small [x] (IntKind.wrap .u32 10) = some (if x / 10 = 0 then [] else [x / 10], x % 10) := by
 have e10 : IntKind.wrap .u32 10 = 10 := by simp [IntKind.wrap, IntKind.bits, IntKind.signed]
 obtain ⟨n, rfl⟩ := Int.eq_ofNat_of_zero_le h0
 have eo : ior (0 * (2 ^ 32 : Int)) (n : Int) = (n : Int) := by
  have := ior_nn 0 n
  rw [Nat.zero_or] at this
  rw [Int.zero_mul]; exact this
 have ed : Int.tdiv (n : Int) 10 = (n : Int) / 10 := Int.tdiv_eq_ediv_of_nonneg (by omega)
 have em : Int.tmod (n : Int) 10 = (n : Int) % 10 := Int.tmod_eq_emod_of_nonneg (by omega)
 rw [e10]
 unfold rotabig_small
 have G : Gets (rotabig_trim [(n : Int) / 10]) (fun b => Bwd b (wv [(n : Int) / 10]) ∧ b.length ≤ [(n : Int) / 10].length) := trim_spec (wok_cons.2 ⟨by omega, wok_nil⟩) (by simp)
 obtain ⟨b, hb, hb2, _⟩ := G
 have eb := one_word hb2 (by simp [wv]; omega)
 have ew : wv [(n : Int) / 10] = (n : Int) / 10 := by simp [wv]
 rw [ew] at eb
 have sh : shlOk .u64 0 32 = true := by decide
 rw [chk_pos (by simp), chk_pos (by simp)]
 have hloop : ∀ (F : List Int × Int × Int → Option ((List Int × Int × Int) ⊕ (List Int × Int))), F ([0], 0, 0) = some (.inl ([(n : Int) / 10], (n : Int) % 10, -1)) → F ([(n : Int) / 10], (n : Int) % 10, -1) = some (.inr ([(n : Int) / 10], (n : Int) % 10)) → loopM F ([0], 0, 0) = some ([(n : Int) / 10], (n : Int) % 10) := fun F h1 h2 => by rw [loopM_inl h1, loopM_inr h2]
 have w1 : IntKind.wrap .u32 ((n : Int) / 10) = (n : Int) / 10 := by rw [wrap32]; omega
 have w2 : IntKind.wrap .u32 ((n : Int) % 10) = (n : Int) % 10 := by rw [wrap32]; omega
 show Option.bind (loopM _ ([0], 0, 0)) _ = _
 rw [hloop _ ?_ ?_]
 ·show Option.bind (rotabig_trim [(n : Int) / 10]) _ = _
  rw [hb, w2, ← eb]; rfl
 ·dsimp only
  rw [if_pos (by omega), chk_pos ⟨sh, by simp, by simp; omega⟩]
  have g0 : [(n : Int)].getD (0 : Int).toNat 0 = (n : Int) := rfl
  rw [g0, eo, ed, em, chk_pos (by omega), chk_pos (by simp), chk_pos (by omega), chk_pos (by omega), w1]
  rfl
 ·dsimp only
  rw [if_neg (by omega)]
/-- The digits, the last first. -/
def dgs (V : Nat) : List Int := if h : V = 0 then [] else (48 + ((V % 10 : Nat) : Int)) :: dgs (V / 10)
termination_by V
decreasing_by omega
theorem dgs_zero : dgs 0 = [] := by rw [dgs]; rfl
theorem dgs_pos {V : Nat} (h : V ≠ 0) : dgs V = (48 + ((V % 10 : Nat) : Int)) :: dgs (V / 10) := by rw [dgs, dif_neg h]
def wd (V : Nat) : List Int := if (V : Int) = 0 then [] else [(V : Int)]
theorem digits_loop (V : Nat) : ∀ (v : List Int), V < 4294967296 → v.length + V ≤ 8589934592 → loopM (ρ := List Int) (fun ((v, v1) : List Int × List Int) =>
 if 0 < (v1.length : Int) then
 (rotabig_small v1 (IntKind.wrap .u32 10)).bind fun y1 =>
 if y1.2 < 10 then
 chk ((0 ≤ (48 + y1.2 : Int) ∧ (48 + y1.2 : Int) ≤ 4294967295)) <|
 chk (((v ++ [IntKind.wrap .u8 (48 + y1.2)]).length ≤ 8796093022208)) <|
 some (.inl (v ++ [IntKind.wrap .u8 (48 + y1.2)], y1.1))
 else
 chk ((0 ≤ (97 + y1.2 : Int) ∧ (97 + y1.2 : Int) ≤ 4294967295)) <|
 chk (((v ++ [IntKind.wrap .u8 (IntKind.wrap .u32 ((97 + y1.2) - 10))]).length ≤ 8796093022208)) <|
 some (.inl (v ++ [IntKind.wrap .u8 (IntKind.wrap .u32 ((97 + y1.2) - 10))], y1.1))
 else
 some (.inr v)) (v, wd V) = some (v ++ dgs V) := by
 induction V using Nat.strongRecOn with
 | ind V ih =>
  intro v hV hl
  by_cases h : V = 0
  ·subst h
   rw [dgs_zero, List.append_nil]
   refine loopM_inr ?_
   rfl
  ·have hw : wd V = [(V : Int)] := if_neg (by omega)
   have hsm := small_ten (x := (V : Int)) (by omega) (by omega)
   have hx : IntKind.wrap .u8 (48 + ((V : Int) % 10)) = 48 + ((V % 10 : Nat) : Int) := by
    simp [IntKind.wrap, IntKind.bits, IntKind.signed]; omega
   have e1 : v ++ dgs V = (v ++ [48 + ((V % 10 : Nat) : Int)]) ++ dgs (V / 10) := by rw [dgs_pos h]; simp
   rw [e1, ← ih (V / 10) (by omega) (v ++ [48 + ((V % 10 : Nat) : Int)]) (by omega) (by simp only [List.length_append, List.length_cons, List.length_nil]; omega)]
   refine loopM_inl ?_
   show (if 0 < ((wd V).length : Int) then _ else _) = _
   rw [hw, if_pos (by simp), hsm]
   show (if (V : Int) % 10 < 10 then _ else _) = _
   rw [if_pos (by omega)]
   show chk _ _ = _
   rw [chk_pos (by omega)]
   show chk ((v ++ [IntKind.wrap .u8 (48 + (V : Int) % 10)]).length ≤ 8796093022208) _ = _
   rw [chk_pos (by simp only [List.length_append, List.length_cons, List.length_nil]; omega)]
   show some (Sum.inl (v ++ [IntKind.wrap .u8 (48 + (V : Int) % 10)], if (V : Int) / 10 = 0 then [] else [(V : Int) / 10])) = _
   rw [hx]
   rfl
/-- Turning round. -/
noncomputable def swp (v3 : List Int) : Option (List Int) := (loopM (ρ := List Int) (fun ((v4, v5, v6) : List Int × Int × Int) =>
 if v5 < v6 then
 chk ((0 ≤ v5 ∧ v5 < v4.length)) <|
 chk ((0 ≤ v6 ∧ v6 < v4.length) ∧ (0 ≤ v5 ∧ v5 < v4.length)) <|
 chk ((0 ≤ v6 ∧ v6 < v4.length)) <|
 chk ((-9223372036854775808 ≤ (v6 - 1 : Int) ∧ (v6 - 1 : Int) ≤ 9223372036854775807)) <|
 some (.inl ((v4.set v5.toNat (v4.getD v6.toNat 0)).set v6.toNat (v4.getD v5.toNat 0), v5 + 1, v6 - 1))
 else
 some (.inr v4)) (v3, 0, (v3.length : Int) - 1))
theorem swp1 (a : Int) : swp [a] = some [a] := by
 unfold swp; exact loopM_inr rfl
theorem swp2 (a b : Int) : swp [a, b] = some [b, a] := by
 unfold swp; rw [loopM_inl (s' := ([b, a], 1, 0)) (by simp [chk])]; exact loopM_inr rfl
theorem swp3 (a b c : Int) : swp [a, b, c] = some [c, b, a] := by
 unfold swp; rw [loopM_inl (s' := ([c, b, a], 1, 1)) (by simp [chk])]; exact loopM_inr rfl
theorem swp4 (a b c d : Int) : swp [a, b, c, d] = some [d, c, b, a] := by
 unfold swp; rw [loopM_inl (s' := ([d, b, c, a], 1, 2)) (by simp [chk]), loopM_inl (s' := ([d, c, b, a], 2, 1)) (by simp [chk])]; exact loopM_inr rfl
theorem dgt {d : Nat} (h : d < 10) : UInt8.ofNat (48 + (d : Int)).toNat = UInt8.ofNat (48 + d) := by
 rw [show (48 + (d : Int)).toNat = 48 + d by omega]
theorem dgs_ok {V : Nat} (h0 : V ≠ 0) (h1 : V < 10000) : ∃ l, swp (dgs V) = some l ∧ bstr l = Lib.decDigits V ∧ (dgs V).length ≤ 4 := by
 have dl : ∀ {d : Nat}, d < 10 → Lib.decDigits d = [UInt8.ofNat (48 + d)] := fun {d} h => by rw [Lib.decDigits, dif_pos h]
 have dm : ∀ {d : Nat}, 10 ≤ d → Lib.decDigits d = Lib.decDigits (d / 10) ++ [UInt8.ofNat (48 + d % 10)] := fun {d} h => by rw [Lib.decDigits, dif_neg (by omega)]
 by_cases c1 : V < 10
 ·refine ⟨[48 + ((V % 10 : Nat) : Int)], ?_, ?_, ?_⟩
  ·rw [dgs_pos h0, show V / 10 = 0 by omega, dgs_zero, swp1]
  ·rw [dl c1]; simp only [bstr, List.map_cons, List.map_nil]; rw [dgt (by omega), show V % 10 = V by omega]
  ·rw [dgs_pos h0, show V / 10 = 0 by omega, dgs_zero]; simp
 ·by_cases c2 : V < 100
  ·have h2 : V / 10 ≠ 0 := by omega
   refine ⟨[48 + ((V / 10 % 10 : Nat) : Int), 48 + ((V % 10 : Nat) : Int)], ?_, ?_, ?_⟩
   ·rw [dgs_pos h0, dgs_pos h2, show V / 10 / 10 = 0 by omega, dgs_zero, swp2]
   ·rw [dm (by omega), dl (by omega)]; simp only [bstr, List.map_cons, List.map_nil]; rw [dgt (by omega), dgt (by omega), show V / 10 % 10 = V / 10 by omega]; rfl
   ·rw [dgs_pos h0, dgs_pos h2, show V / 10 / 10 = 0 by omega, dgs_zero]; simp
  ·have h2 : V / 10 ≠ 0 := by omega
   have h3 : V / 10 / 10 ≠ 0 := by omega
   by_cases c3 : V < 1000
   ·refine ⟨[48 + ((V / 10 / 10 % 10 : Nat) : Int), 48 + ((V / 10 % 10 : Nat) : Int), 48 + ((V % 10 : Nat) : Int)], ?_, ?_, ?_⟩
    ·rw [dgs_pos h0, dgs_pos h2, dgs_pos h3, show V / 10 / 10 / 10 = 0 by omega, dgs_zero, swp3]
    ·rw [dm (by omega), dm (by omega), dl (by omega)]; simp only [bstr, List.map_cons, List.map_nil]; rw [dgt (by omega), dgt (by omega), dgt (by omega), show V / 10 / 10 % 10 = V / 10 / 10 by omega]; rfl
    ·rw [dgs_pos h0, dgs_pos h2, dgs_pos h3, show V / 10 / 10 / 10 = 0 by omega, dgs_zero]; simp
   ·have h4 : V / 10 / 10 / 10 ≠ 0 := by omega
    refine ⟨[48 + ((V / 10 / 10 / 10 % 10 : Nat) : Int), 48 + ((V / 10 / 10 % 10 : Nat) : Int), 48 + ((V / 10 % 10 : Nat) : Int), 48 + ((V % 10 : Nat) : Int)], ?_, ?_, ?_⟩
    ·rw [dgs_pos h0, dgs_pos h2, dgs_pos h3, dgs_pos h4, show V / 10 / 10 / 10 / 10 = 0 by omega, dgs_zero, swp4]
    ·rw [dm (by omega), dm (by omega), dm (by omega), dl (by omega)]; simp only [bstr, List.map_cons, List.map_nil]; rw [dgt (by omega), dgt (by omega), dgt (by omega), dgt (by omega), show V / 10 / 10 / 10 % 10 = V / 10 / 10 / 10 by omega]; rfl
    ·rw [dgs_pos h0, dgs_pos h2, dgs_pos h3, dgs_pos h4, show V / 10 / 10 / 10 / 10 = 0 by omega, dgs_zero]; simp
theorem String_spec {x : Bool × List Int} {V : Nat} (hx : Bg x (V : Int)) (h1 : V < 10000) : rotabig_Int_String x.1 x.2 = some (Lib.itoa (V : Int)) := by
 have ei : Lib.itoa (V : Int) = Lib.decDigits V := by unfold Lib.itoa; rw [if_neg (by omega)]; rfl
 rw [ei]
 obtain ⟨h2, h3, h4, h5⟩ := hx
 have eb : x.1 = false := by
  cases e : x.1 with
  | false => rfl
  | true => have := h5.1 e; omega
 have ew := one_word (n := (V : Int)) ⟨h2, h3, by rw [h4]; rfl⟩ (by omega)
 unfold rotabig_Int_String rotabig_Int_Text
 by_cases h : V = 0
 ·subst h
  have e0 : x.2 = [] := by rw [ew]; rfl
  have ed : Lib.decDigits 0 = [48] := by rw [Lib.decDigits, dif_pos (by omega)]; rfl
  rw [e0, ed]
  rfl
 ·have ew2 : x.2 = wd V := ew
  rw [if_neg (by rw [ew, if_neg (by omega)]; simp)]
  have et : rotabig_twin x.2 = some (wd V) := by
   unfold rotabig_twin
   rw [ew2, chk_pos (by unfold wd; split <;> simp)]
  rw [et]
  simp only [Option.bind_some]
  rw [digits_loop V [] (by omega) (by simp; omega)]
  simp only [Option.bind_some, List.nil_append]
  obtain ⟨l, l1, l2, l3⟩ := dgs_ok h h1
  rw [eb]
  simp only [joinM]
  rw [if_neg (by simp), chk_pos (by omega)]
  show Option.bind (Option.bind (swp (dgs V)) _) _ = _
  rw [l1]
  simp only [Option.bind_some]
  rw [l2]
theorem Pick_spec (k : Int) (n : Nat) (hn : 0 < n) (h1 : -9223372036854775808 ≤ k) (h2 : k ≤ 9223372036854775807) : Gets (rotaref_Pick k n) (fun r => ∃ a : Nat, r = a ∧ a < n) := by
 have h := Int.emod_nonneg (-(k + 1)) (show (n : Int) ≠ 0 by omega)
 have h' := Int.emod_lt_of_pos (-(k + 1)) (show 0 < (n : Int) by omega)
 have g := Int.emod_nonneg k (show (n : Int) ≠ 0 by omega)
 have g' := Int.emod_lt_of_pos k (show 0 < (n : Int) by omega)
 unfold rotaref_Pick
 refine gIte (fun q => gChk (by omega) (gChk (by omega) (gSome ⟨((-(k + 1)) % (n : Int)).toNat, ?_, by omega⟩))) fun q => gChk (by omega) (gSome ⟨(k % (n : Int)).toNat, ?_, by omega⟩)
 ·rw [Int.tmod_eq_emod_of_nonneg (by omega)]; omega
 ·rw [Int.tmod_eq_emod_of_nonneg (by omega)]; omega
theorem pw_le {p b : Nat} (hp : p ≤ 2) (hb : b ≤ 8) : p ^ b ≤ 256 := by
 have h1 : p ^ b ≤ 2 ^ b := Nat.pow_le_pow_left hp b
 have h2 : 2 ^ b ≤ 2 ^ 8 := Nat.pow_le_pow_right (by omega) hb
 omega
theorem power_spec {p b : Nat} (hp : p ≤ 2) (hb : b ≤ 8) : rotakeep_power (p : Int) (b : Int) = some ((p ^ b : Nat) : Int) := by
  refine Gets.eq ?_
  unfold rotakeep_power
  refine gBind (gFor b (fun (k : Nat) (z : Int × Int) => z.2 = (k : Int) ∧ z.1 = ((p ^ k : Nat) : Int)) (Nat.zero_le _) ⟨rfl, by simp⟩ ?_) fun n hn => gSome hn
  rintro k ⟨n, v⟩ hk ⟨e1, e2⟩
  dsimp only at e1 e2 ⊢
  subst e1 e2
  have hpw := pw_le hp (show k ≤ 8 by omega)
  have e : ((p ^ k : Nat) : Int) * (p : Int) = ((p ^ (k + 1) : Nat) : Int) := by rw [Nat.pow_succ, Int.natCast_mul]
  refine gIte (fun q => ?_) fun q => gSome (by have : k = b := by omega
                                               subst this; rfl)
  have hpw2 := pw_le hp (show k + 1 ≤ 8 by omega)
  rw [e]
  exact gChk (by omega) (gSome ⟨by omega, by simp, rfl⟩)
theorem Same_spec {a b : List Int} (h : a = b) (hl : a.length ≤ 1000) : rotalaw_Same_int64 a b = some true := by
 subst h
 refine Gets.eq ?_
 unfold rotalaw_Same_int64
 refine gIte (fun q => absurd rfl q) fun _ => ?_
 refine gBind (R := fun z : Unit ⊕ Bool => z = .inl ()) (gFor a.length (fun (k : Nat) (v : Int) => v = (k : Int)) (Nat.zero_le _) rfl ?_) ?_
 ·rintro k _ hk rfl
  refine gIte (fun h1 => gChk (by omega) (gIte (fun q => absurd rfl q) fun _ => gSome ⟨by omega, by simp⟩)) fun h1 => gSome rfl
 ·rintro _ rfl; exact gSome rfl
theorem sn_eq (n : Nat) : sn n = 1 - 2 * ((n : Int) % 2) := by unfold sn; split <;> omega
theorem pcn_eq {N : Nat} {E : List (Int × Int)} {s : Nat} : ∀ k, Ends N E k → (pcn N E s k : Int) = (N : Int) + nu E s k - cn s k := by
 intro k
 induction k with
 | zero => intro _; simp [pcn, nu, cn]
 | succ k ih =>
  intro hE
  have ih' := ih fun i hi => hE i (by omega)
  simp only [pcn, nu, cn]
  by_cases hb : s.testBit k = true
  ·by_cases hl : lab E s k (eU E k) = lab E s k (eV E k)
   ·rw [if_neg fun h => h.2 hl, if_pos ⟨hb, hl⟩, if_pos hb]; push_cast; omega
   ·have := pcn_pos hE hb hl
    rw [if_pos ⟨hb, hl⟩, if_neg fun h => hl h.2, if_pos hb]; push_cast; omega
  ·rw [if_neg fun h => hb h.1, if_neg fun h => hb h.1, if_neg hb]; exact ih'
theorem Chromatic_spec (n : Int) (E : List (Int × Int)) : Gets (tutte_Chromatic n E) (fun r => (r.2 ≠ 0 ∧ r.1 = [] ∧ kinds_CheckGraph n E = some r.2) ∨ r.2 = 0 ∧ ∃ N : Nat, n = N ∧ Gra N E ∧ r.1.length = N + 1 ∧ (∀ i, -256 ≤ r.1.getD i 0 ∧ r.1.getD i 0 ≤ 256) ∧ ∀ q, pval r.1 q = sm (2 ^ E.length) fun s => sn (cn s E.length) * q ^ pcn N E s E.length) := by
 unfold tutte_Chromatic
 obtain ⟨y, hye, hy⟩ := CheckGraph_spec n E
 refine gBindE hye (gIte (fun q => gSome (.inl ⟨q, rfl, hye⟩)) fun q => ?_)
 obtain ⟨N, rfl, h⟩ := hy (by omega)
 have h8 := h.e8
 have h7 := h.n7
 generalize hm : E.length = m at *
 have hE : Ends N E m := h.en (by omega)
 have hpw : 2 ^ m ≤ 2 ^ 8 := Nat.pow_le_pow_right (by omega) h8
 have hp1 : 0 < 2 ^ m := Nat.pow_pos (by omega)
 have e2 : (2 : Int) ^ ((m : Nat) : Int).toNat = ((2 ^ m : Nat) : Int) := shl_nat m
 rw [e2]
 have hps : ∀ s : Nat, Gets (tutte_parted N E (s : Int)) (fun r => r = (pcn N E s m : Int)) := fun s => by
  have := parted_spec h s
  rw [hm] at this
  rw [pcn_eq m hE]; exact this
 refine gChk (by omega) (gChk (by omega) ?_)
 have en : ((N : Int) + 1).toNat = N + 1 := by omega
 rw [en]
 refine gBind (R := fun l : List Int => l.length = N + 1 ∧ (∀ i, -256 ≤ l.getD i 0 ∧ l.getD i 0 ≤ 256) ∧ ∀ q, pval l q = sm (2 ^ m) fun s => sn (cn s m) * q ^ pcn N E s m) (gFor (2 ^ m) (fun (k : Nat) (z : List Int × Int) => z.2 = (k : Int) ∧ z.1.length = N + 1 ∧ (∀ i : Nat, -(k : Int) ≤ z.1.getD i 0 ∧ z.1.getD i 0 ≤ (k : Int)) ∧ ∀ q, pval z.1 q = sm k fun s => sn (cn s m) * q ^ pcn N E s m) (Nat.zero_le _) ⟨rfl, by simp, fun i => by
   have : (List.replicate (N + 1) (0 : Int)).getD i 0 = 0 := by
    rw [List.getD_eq_getElem?_getD, List.getElem?_replicate]; split <;> rfl
   dsimp only; rw [this]; omega, fun q => pval_rep _ q⟩ ?_) fun l hl => gSome (.inr ⟨rfl, N, rfl, h, hl⟩)
 rintro k ⟨l, v⟩ hk ⟨e1, e4, e5, e6⟩
 dsimp only at e1 e4 e5 e6 ⊢
 subst e1
 refine gIte (fun q => ?_) fun q => gSome (by
  have : k = 2 ^ m := by omega
  subst this; exact ⟨e4, fun i => by have := e5 i; omega, e6⟩)
 have hk' : k < 2 ^ m := by omega
 have hsz := size_spec (by omega : m ≤ 8) hk'
 have hcl := cn_le k m
 have hpl : pcn N E k m ≤ N := pcn_le k m
 refine gBind (hps k) fun y3 hy3 => ?_
 subst hy3
 refine gChk (by omega) (gBindE hsz ?_)
 have es : 1 - 2 * Int.tmod (cn k m : Int) 2 = sn (cn k m) := by rw [sn_eq, Int.tmod_eq_emod_of_nonneg (by omega)]
 have hsb : -1 ≤ sn (cn k m) ∧ sn (cn k m) ≤ 1 := by rw [sn_eq]; omega
 have hmd : 0 ≤ Int.tmod (cn k m : Int) 2 ∧ Int.tmod (cn k m : Int) 2 ≤ 1 := by rw [Int.tmod_eq_emod_of_nonneg (by omega)]; omega
 rw [es, toNat_nat]
 have h5 := e5 (pcn N E k m)
 refine gChk (by omega) (gSome ⟨by omega, by simp, by simp [e4], fun i => ?_, fun q => ?_⟩)
 ·dsimp only
  by_cases hi : pcn N E k m = i
  ·subst hi; rw [getD_set_self (by omega)]; push_cast; omega
  ·rw [getD_set_ne hi]; have := e5 i; push_cast; omega
 ·dsimp only
  rw [pval_set _ _ _ _ (by omega), e6 q]; rfl
theorem In_nat (s i : Nat) : rotaref_In (s : Int) (i : Int) = some (s.testBit i) := by
 unfold rotaref_In
 rw [chk_pos (by omega), shr_nat]
 have e : Int.tmod ((s / 2 ^ i : Nat) : Int) 2 = ((s / 2 ^ i % 2 : Nat) : Int) := by rw [Int.tmod_eq_emod_of_nonneg (Int.natCast_nonneg _)]; rfl
 rw [e, Nat.testBit_eq_decide_div_mod_eq]
 congr 1
 by_cases h : s / 2 ^ i % 2 = 1
 ·rw [h]; rfl
 ·rw [decide_eq_false h, decide_eq_false (by omega)]
theorem All_nat {N : Nat} (h : N ≤ 7) : rotaref_All (N : Int) = some ((2 ^ N - 1 : Nat) : Int) := by
 unfold rotaref_All
 have hpw : 2 ^ N ≤ 2 ^ 7 := Nat.pow_le_pow_right (by omega) h
 have hp1 : 0 < 2 ^ N := Nat.pow_pos (by omega)
 rw [shl_nat, chk_pos (by omega)]
 congr 1; omega
theorem sm_lt {n : Nat} {f g : Nat → Int} (h : ∀ i, i < n → f i ≤ g i) {a : Nat} (ha : a < n) (hl : f a < g a) : sm n f < sm n g := by
 induction n with
 | zero => omega
 | succ n ih =>
  simp only [sm]
  by_cases e : a = n
  ·subst e
   have := sm_le (n := a) fun i hi => h i (by omega)
   omega
  ·have := ih (fun i hi => h i (by omega)) (by omega)
   have := h n (by omega)
   omega
def rk (N : Nat) (h : Nat → Int) (y : Nat) : Int := sm N fun z => if h z < h y then 1 else 0
theorem rk_nn (N : Nat) (h : Nat → Int) (y : Nat) : 0 ≤ rk N h y := by
 have := sm_le (n := N) (f := fun _ => 0) (g := fun z => if h z < h y then 1 else 0) fun i _ => by split <;> omega
 rw [sm_const] at this
 unfold rk; omega
theorem rk_lt {N : Nat} {h : Nat → Int} {a b : Nat} (ha : a < N) (hl : h a < h b) : rk N h a < rk N h b :=
 sm_lt (fun i _ => by split <;> split <;> omega) ha (by rw [if_neg (by omega), if_pos hl]; omega)
theorem rk_top {N : Nat} {h : Nat → Int} {y : Nat} (hy : y < N) : rk N h y < N := by
 have := sm_lt (n := N) (f := fun z => if h z < h y then 1 else 0) (g := fun _ => 1) (fun i _ => by split <;> omega) hy (by rw [if_neg (by omega)]; omega)
 rw [sm_const] at this
 unfold rk; omega
/-- What holds as the ringless are taken away. -/
def Rg (N : Nat) (D : List (Int × Int)) (i x L : Nat) : Prop :=
 (∃ (h : Nat → Int) (T : Int), (∀ y, y < N → L.testBit y = false → h y < T) ∧ ∀ e, e < D.length → L.testBit (eV D e) = false → L.testBit (eU D e) = false ∧ h (eU D e) < h (eV D e)) ∧
 ∀ h : Nat → Int, (∀ e, e < D.length → h (eU D e) < h (eV D e)) → ∀ y, y < N → (rk N h y < i ∨ (rk N h y = i ∧ y < x)) → L.testBit y = false
theorem ContainsE {N : Nat} {D : List (Int × Int)} (h : Gra N D) (x L : Nat) : Gets (slices_ContainsFunc_api_Edge_api_Edge D (fun x0 x1 => rotakeep_ringed_1 x0 x1 (x : Int) (L : Int))) (fun r => r = true ↔ ∃ e, e < D.length ∧ eV D e = x ∧ L.testBit (eU D e) = true) := by
 have h8 := h.e8
 unfold slices_ContainsFunc_api_Edge_api_Edge slices_IndexFunc_api_Edge_api_Edge
 refine gBind (R := fun r : Int => 0 ≤ r ↔ ∃ e, e < D.length ∧ eV D e = x ∧ L.testBit (eU D e) = true) ?_ fun y hy => gSome (by rw [decide_eq_true_eq]; exact hy)
 refine gBind (R := fun z : Unit ⊕ Int => match z with | .inl _ => ∀ e, e < D.length → ¬ (eV D e = x ∧ L.testBit (eU D e) = true) | .inr r => 0 ≤ r ∧ ∃ e, e < D.length ∧ eV D e = x ∧ L.testBit (eU D e) = true)
  (gFor D.length (fun (k : Nat) (v : Int) => v = (k : Int) ∧ ∀ j, j < k → ¬ (eV D j = x ∧ L.testBit (eU D j) = true)) (Nat.zero_le _) ⟨rfl, fun j hj => absurd hj (Nat.not_lt_zero _)⟩ ?_) ?_
 ·rintro k _ hk ⟨rfl, hb⟩
  simp only [toNat_nat]
  refine gIte (fun h1 => gChk (by omega) ?_) fun h1 => gSome fun j hj => hb j (by omega)
  have hk' : k < D.length := by omega
  obtain ⟨u1, u2, u3, u4⟩ := h.eu hk'
  have e1 : rotakeep_ringed_1 ((D.getD k (0, 0)).1) ((D.getD k (0, 0)).2) (x : Int) (L : Int) = some (decide (eV D k = x ∧ L.testBit (eU D k) = true)) := by
   unfold rotakeep_ringed_1
   rw [u1, u2]
   by_cases q : eV D k = x
   ·rw [if_pos (by omega), In_nat]
    simp [q]
   ·rw [if_neg (by omega)]
    simp only [Option.bind_some]
    congr 1
    rw [decide_eq_false (by omega), decide_eq_false fun r => q r.1]
  refine gBindE e1 (gIte (fun h2 => gSome ⟨by omega, k, hk', by simpa using h2⟩) fun h2 => gSome ⟨by omega, by simp, fun j hj => ?_⟩)
  rcases Nat.lt_or_ge j k with c | c
  ·exact hb j c
  ·have : j = k := by omega
   subst this
   simpa using h2
 ·rintro (u | r) hz
  ·exact gSome ⟨fun h => by omega, fun ⟨e, e1, e2⟩ => absurd e2 (hz e e1)⟩
  ·exact gSome ⟨fun _ => hz.2, fun _ => hz.1⟩
theorem ringed_spec {N : Nat} {D : List (Int × Int)} (h : Gra N D) : Gets (rotakeep_ringed N D) (fun r => r = false ↔ ∃ g : Nat → Int, ∀ i, i < D.length → g (eU D i) < g (eV D i)) := by
  have h7 := h.n7
  have h8 := h.e8
  have hp1 : 0 < 2 ^ N := Nat.pow_pos (by omega)
  unfold rotakeep_ringed
  refine gBindE (All_nat h7) ?_
  refine gBind (R := fun v : Int => ∃ L : Nat, v = L ∧ L < 2 ^ N ∧ Rg N D N 0 L) (gFor N (fun (k : Nat) (z : Int × Int) => z.2 = (k : Int) ∧ ∃ L : Nat, z.1 = L ∧ L < 2 ^ N ∧ Rg N D k 0 L) (Nat.zero_le _) ⟨rfl, 2 ^ N - 1, rfl, by omega, ⟨fun _ => 0, 0, fun y hy hb => ?_, fun e he hb => ?_⟩, fun g hg y hy hc => ?_⟩ ?_) ?_
  · rw [bit_full hy] at hb; cases hb
  · rw [bit_full (h.eu he).2.2.2] at hb; cases hb
  · have := rk_nn N g y; omega
  · rintro k ⟨left, v⟩ hk ⟨e1, L, e2, hL, hR⟩
    dsimp only at e1 e2 ⊢
    subst e1 e2
    refine gIte (fun q => ?_) fun q => gSome (by have : k = N := by omega
                                                 subst this; exact ⟨L, rfl, hL, hR⟩)
    refine gBind (R := fun v : Int => ∃ L : Nat, v = L ∧ L < 2 ^ N ∧ Rg N D (k + 1) 0 L) (gFor N (fun (x : Nat) (z : Int × Int) => z.2 = (x : Int) ∧ ∃ L : Nat, z.1 = L ∧ L < 2 ^ N ∧ Rg N D k x L) (Nat.zero_le _) ⟨rfl, L, rfl, hL, hR⟩ ?_) ?_
    · rintro x ⟨left2, v1⟩ hx ⟨f1, L2, f2, hL2, ⟨g0, T, hA1, hA2⟩, hB⟩
      dsimp only at f1 f2 ⊢
      subst f1 f2
      refine gIte (fun q2 => ?_) fun q2 => gSome ⟨L2, rfl, hL2, ⟨g0, T, hA1, hA2⟩, fun g hg y hy hc => hB g hg y hy (by push_cast at hc; omega)⟩
      have hx' : x < N := by omega
      refine gBind (ContainsE h x L2) fun b hb => gIte (fun q3 => gChk (by omega) (gSome ⟨hx', by simp, dif L2 (2 ^ x), ?_, dif_lt hL2, ?_, fun g hg y hy hc => ?_⟩)) fun q3 => gSome ⟨hx', by simp, L2, rfl, hL2, ⟨g0, T, hA1, hA2⟩, fun g hg y hy hc => ?_⟩
      · dsimp only
        rw [shl_nat, dif_nat]
      · have hno : ∀ e, e < D.length → eV D e = x → L2.testBit (eU D e) = false := fun e he hv => by
          cases hh : L2.testBit (eU D e) with
          | false => rfl
          | true => exact absurd (hb.2 ⟨e, he, hv, hh⟩) q3
        have tb : ∀ y, (dif L2 (2 ^ x)).testBit y = (L2.testBit y && !decide (x = y)) := fun y => by rw [testBit_dif, Nat.testBit_two_pow]
        by_cases hxb : L2.testBit x = true
        · refine ⟨fun y => if y = x then T else g0 y, T + 1, fun y hy hb2 => ?_, fun e he hb2 => ?_⟩
          · rw [tb] at hb2
            by_cases e : y = x
            · dsimp only; rw [if_pos e]; omega
            · dsimp only; rw [if_neg e]
              have : L2.testBit y = false := by
                rw [decide_eq_false (fun q => e q.symm)] at hb2; simpa using hb2
              have := hA1 y hy this; omega
          · rw [tb] at hb2
            dsimp only
            obtain ⟨_, _, u3, u4⟩ := h.eu he
            by_cases c : eV D e = x
            · have n1 := hno e he c
              have n2 : eU D e ≠ x := fun q => by rw [q] at n1; rw [n1] at hxb; cases hxb
              rw [if_pos c, if_neg n2, tb, n1]
              exact ⟨rfl, hA1 _ u3 n1⟩
            · have n1 : L2.testBit (eV D e) = false := by
                rw [decide_eq_false (fun q => c q.symm)] at hb2; simpa using hb2
              obtain ⟨n2, n3⟩ := hA2 e he n1
              have n4 : eU D e ≠ x := fun q => by rw [q] at n2; rw [n2] at hxb; cases hxb
              rw [if_neg c, if_neg n4, tb, n2]
              exact ⟨rfl, n3⟩
        · have hxf : L2.testBit x = false := by simpa using hxb
          have tb2 : ∀ y, (dif L2 (2 ^ x)).testBit y = L2.testBit y := fun y => by
            rw [tb]
            by_cases e : x = y
            · subst e; rw [hxf]; rfl
            · rw [decide_eq_false e]; simp
          exact ⟨g0, T, fun y hy hb2 => hA1 y hy (by rw [← tb2]; exact hb2), fun e he hb2 => by rw [tb2] at hb2 ⊢; exact hA2 e he hb2⟩
      · rw [testBit_dif, Nat.testBit_two_pow]
        by_cases e : x = y
        · rw [decide_eq_true e]; simp
        · rw [hB g hg y hy (by omega)]; rfl
      · by_cases e : y = x
        · subst e
          rcases hc with hc | ⟨hc, _⟩
          · exact hB g hg y hy (.inl hc)
          · exfalso
            obtain ⟨e, he, hv, hu⟩ := hb.1 (Classical.not_not.1 q3)
            obtain ⟨_, _, u3, _⟩ := h.eu he
            have hl := hg e he
            rw [hv] at hl
            have := rk_lt u3 hl
            rw [hB g hg _ u3 (.inl (by omega))] at hu
            cases hu
        · exact hB g hg y hy (by omega)
    · rintro _ ⟨L2, rfl, h1, h2⟩
      exact gSome ⟨by omega, by simp, L2, rfl, h1, h2⟩
  · rintro _ ⟨L, rfl, hL, ⟨g0, T, hA1, hA2⟩, hB⟩
    refine gSome ?_
    rw [decide_eq_false_iff_not]
    constructor
    · intro q
      have : L = 0 := by omega
      subst this
      exact ⟨g0, fun e he => (hA2 e he (Nat.zero_testBit _)).2⟩
    · rintro ⟨g, hg⟩ hne
      apply hne
      have : L = 0 := Nat.eq_of_testBit_eq fun y => by
        rw [Nat.zero_testBit]
        rcases Nat.lt_or_ge y N with c | c
        · exact hB g hg y c (.inl (rk_top c))
        · exact Nat.testBit_lt_two_pow (Nat.lt_of_lt_of_le hL (Nat.pow_le_pow_right (by omega) c))
      omega
theorem neg_spec {x : Bool × List Int} {n : Int} (hx : Bg x n) (hl : x.2.length < 400000) : Gets (rotabig_Int_Neg x) (fun r => Bg r (-n)) := by
 unfold rotabig_Int_Neg
 obtain ⟨x1, x2, x3, x4⟩ := hx
 refine gBindE (show rotabig_twin x.2 = some x.2 by unfold rotabig_twin; exact chk_pos (by omega)) ?_
 obtain ⟨r, hr, hb⟩ := give_spec (s := decide (¬ (x.1 = true))) (q := (x.1, x.2)) (l := x.2) (n := -n) x1 x2 (by rw [x3, Int.natAbs_neg]) (fun h => by
  rw [decide_eq_true_iff, x4]; omega)
 exact gBindE hr (gSome hb)
end Go.SH
