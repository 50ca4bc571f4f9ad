/-
 What the program's functions on graphs, on flows and on numbers' digits say. Conditions: none.
-/
import Derived.Test.YtlpikingpnenkaaDoorLBg
import Derived.Test.YtlpikingpnenkaaDoorLtA
import Derived.Lib.ItoaNum
set_option linter.unusedSimpArgs false
set_option linter.unusedVariables false
namespace Go.SH
open Go Go.AX
/-- A graph as the program takes it. -/
structure Gra (N : Nat) (E : List (Int × Int)) : Prop where
 n1 : 1 ≤ N
 n7 : N ≤ 7
 e8 : E.length ≤ 8
 ends : ∀ k, k < E.length → 0 ≤ (E.getD k (0, 0)).1 ∧ 0 ≤ (E.getD k (0, 0)).2 ∧ (E.getD k (0, 0)).1 < N ∧ (E.getD k (0, 0)).2 < N
theorem CheckGraph_spec (n : Int) (E : List (Int × Int)) : Gets (kinds_CheckGraph n E) (fun r => r = 0 → ∃ N : Nat, n = N ∧ Gra N E) := by
 unfold kinds_CheckGraph
 refine gIte (fun _ => gSome (by simp)) fun h => ?_
 obtain ⟨N, rfl⟩ := Int.eq_ofNat_of_zero_le (show 0 ≤ n by omega)
 refine gBind (R := fun z => match z with | .inl _ => ∀ k, k < E.length → 0 ≤ (E.getD k (0, 0)).1 ∧ 0 ≤ (E.getD k (0, 0)).2 ∧ (E.getD k (0, 0)).1 < N ∧ (E.getD k (0, 0)).2 < N | .inr r => r ≠ 0)
  (gFor E.length (fun k v => v = (k : Int) ∧ ∀ j, j < k → 0 ≤ (E.getD j (0, 0)).1 ∧ 0 ≤ (E.getD j (0, 0)).2 ∧ (E.getD j (0, 0)).1 < N ∧ (E.getD j (0, 0)).2 < N) (Nat.zero_le _) ⟨rfl, fun j hj => absurd hj (Nat.not_lt_zero _)⟩ ?_) ?_
 ·rintro k _ hk ⟨rfl, hb⟩
  simp only [toNat_nat]
  refine gIte (fun h1 => gChk (by omega) (gIte (fun _ => gSome (show (1 : Int) ≠ 0 by omega)) fun h2 => gSome ⟨by omega, by simp, fun j hj => ?_⟩)) fun h1 => gSome fun j hj => hb j (by omega)
  rcases Nat.lt_or_ge j k with c | c
  ·exact hb j c
  ·have : j = k := by omega
   subst this; omega
 ·rintro (u | rr) hz
  ·exact gSome fun _ => ⟨N, rfl, by omega, by omega, by omega, hz⟩
  ·exact gSome fun e => absurd e hz
theorem Gra.eu {N : Nat} {E : List (Int × Int)} (h : Gra N E) {k : Nat} (hk : k < E.length) : (E.getD k (0, 0)).1 = (eU E k : Int) ∧ (E.getD k (0, 0)).2 = (eV E k : Int) ∧ eU E k < N ∧ eV E k < N := by
 have := h.ends k hk
 unfold eU eV; omega
theorem Gra.en {N : Nat} {E : List (Int × Int)} (h : Gra N E) {k : Nat} (hk : k ≤ E.length) : Ends N E k := fun i hi => ⟨(h.eu (by omega)).2.2.1, (h.eu (by omega)).2.2.2⟩
/-! ### roots -/
def fnd (c : List Int) : Nat → Nat → Nat
 | 0, x => x
 | f + 1, x => if c.getD x 0 = (x : Int) then x else fnd c f (c.getD x 0).toNat
/-- The list points, within its length. -/
def Pts (N : Nat) (c : List Int) : Prop := c.length = N ∧ ∀ x, x < N → 0 ≤ c.getD x 0 ∧ c.getD x 0 < N
theorem find_spec {N : Nat} {c : List Int} (h : Pts N c) : ∀ (f x : Nat), x < N → c.getD (fnd c f x) 0 = (fnd c f x : Int) → tutte_parted_1 (x : Int) c = some ((fnd c f x : Nat) : Int) := by
 have key : ∀ (f x : Nat), x < N → c.getD (fnd c f x) 0 = (fnd c f x : Int) → loopM (ρ := Int) (fun (v1 : Int) =>
   chk ((0 ≤ v1 ∧ v1 < c.length)) <|
   if c.getD v1.toNat 0 ≠ v1 then
   chk ((0 ≤ v1 ∧ v1 < c.length)) <|
   some (.inl (c.getD v1.toNat 0))
   else
   some (.inr v1)) (x : Int) = some ((fnd c f x : Nat) : Int) := by
  intro f
  induction f with
  | zero =>
   intro x hx he
   simp only [fnd] at he ⊢
   refine loopM_inr ?_
   rw [chk_pos (by have := h.1; omega), toNat_nat, if_neg (by omega)]
  | succ f ih =>
   intro x hx he
   simp only [fnd] at he ⊢
   have hl := h.1
   by_cases q : c.getD x 0 = (x : Int)
   ·rw [if_pos q]
    refine loopM_inr ?_
    rw [chk_pos (by omega), toNat_nat, if_neg (by omega)]
   ·rw [if_neg q] at he ⊢
    have hb := h.2 x hx
    rw [← ih _ (by omega) he]
    rw [Int.toNat_of_nonneg hb.1]
    refine loopM_inl ?_
    rw [chk_pos (by omega), toNat_nat, if_pos q, chk_pos (by omega)]
 intro f x hx he
 unfold tutte_parted_1
 rw [key f x hx he]; rfl
theorem fnd_more {N : Nat} {c : List Int} : ∀ (f x : Nat), c.getD (fnd c f x) 0 = (fnd c f x : Int) → fnd c (f + 1) x = fnd c f x := by
 intro f
 induction f with
 | zero => intro x he; simp only [fnd] at he ⊢; rw [if_pos he]
 | succ f ih =>
  intro x he
  rw [fnd]
  by_cases q : c.getD x 0 = (x : Int)
  ·rw [if_pos q]; simp only [fnd]; rw [if_pos q]
  ·rw [if_neg q]
   rw [fnd, if_neg q] at he
   rw [ih _ he, fnd, if_neg q]
theorem fnd_set {N : Nat} {c : List Int} (h : Pts N c) {y y1 : Nat} (hy : y < N) (h1 : y1 < N) (e : c.getD y 0 = (y : Int)) (e1 : c.getD y1 0 = (y1 : Int)) (hne : y ≠ y1) :
  ∀ (f x : Nat), c.getD (fnd c f x) 0 = (fnd c f x : Int) → fnd (c.set y (y1 : Int)) (f + 1) x = if fnd c f x = y then y1 else fnd c f x := by
 have hl := h.1
 have s1 : (c.set y (y1 : Int)).getD y 0 = (y1 : Int) := getD_set_self (by omega) _
 have s2 : ∀ x, x ≠ y → (c.set y (y1 : Int)).getD x 0 = c.getD x 0 := fun x hx => getD_set_ne (fun q => hx q.symm) _
 have base : ∀ (f x : Nat), c.getD x 0 = (x : Int) → fnd (c.set y (y1 : Int)) (f + 1) x = if x = y then y1 else x := by
  intro f x hx
  rw [fnd]
  by_cases q : x = y
  ·subst q
   rw [s1, if_neg (by omega), if_pos rfl, toNat_nat]
   cases f with
   | zero => rfl
   | succ f => rw [fnd, s2 _ (fun q => hne q.symm), if_pos e1]
  ·rw [s2 x q, if_pos hx, if_neg q]
 intro f
 induction f with
 | zero => intro x he; simp only [fnd] at he ⊢; exact base 0 x he
 | succ f ih =>
  intro x he
  by_cases q : c.getD x 0 = (x : Int)
  ·have fe : fnd c (f + 1) x = x := by rw [fnd, if_pos q]
   rw [base (f + 1) x q, fe]
  ·have hxy : x ≠ y := fun r => q (by rw [r]; exact e)
   have fe : fnd c (f + 1) x = fnd c f (c.getD x 0).toNat := by rw [fnd, if_neg q]
   rw [fe] at he ⊢
   rw [fnd, s2 x hxy, if_neg q, ih _ he]
/-- What stands behind the first k edges. -/
def Rts (N : Nat) (E : List (Int × Int)) (s k : Nat) (c : List Int) : Prop := Pts N c ∧ ∀ x, x < N → fnd c k x = lab E s k x ∧ c.getD (lab E s k x) 0 = (lab E s k x : Int) ∧ lab E s k x < N
/-- How many of the first k are in s. -/
def cn (s : Nat) : Nat → Nat
 | 0 => 0
 | k + 1 => if s.testBit k = true then cn s k + 1 else cn s k
theorem parted_spec {N : Nat} {E : List (Int × Int)} (h : Gra N E) (s : Nat) : Gets (tutte_parted N E (s : Int)) (fun r => r = (N : Int) + nu E s E.length - cn s E.length) := by
  have h8 := h.e8
  have h7 := h.n7
  unfold tutte_parted
  refine gChk (by omega) ?_
  refine gBind (R := fun c : List Int => Rts N E s 0 c) (gFor N (fun k z => z.2 = (k : Int) ∧ z.1.length = N ∧ ∀ j, j < k → z.1.getD j 0 = (j : Int)) (Nat.zero_le _) ⟨rfl, by simp, fun j hj => absurd hj (Nat.not_lt_zero _)⟩ ?_) ?_
  · rintro k ⟨c, v⟩ hk ⟨e1, e2, e3⟩
    dsimp only at e1 e2 e3 ⊢
    subst e1
    simp only [List.length_replicate, toNat_nat]
    refine gIte (fun q => gChk (by omega) (gSome ⟨by omega, by simp, by simp [e2], fun j hj => ?_⟩)) fun q => gSome ?_
    · rcases Nat.lt_or_ge j k with r | r
      · rw [getD_set_ne (by omega)]; exact e3 j r
      · have : j = k := by omega
        subst this; exact getD_set_self (by omega) _
    · have : k = N := by omega
      subst this
      exact ⟨⟨e2, fun x hx => by rw [e3 x hx]; omega⟩, fun x hx => ⟨rfl, e3 x hx, hx⟩⟩
  · intro root1 h0
    refine gBind (R := fun n : Int => n = (N : Int) + nu E s E.length - cn s E.length) (gFor E.length (fun k z => z.2.2 = (k : Int) ∧ Rts N E s k z.1 ∧ z.2.1 = (N : Int) + nu E s k - cn s k ∧ (nu E s k ≤ k) ∧ cn s k ≤ k) (Nat.zero_le _) ⟨rfl, h0, by simp [nu, cn], Nat.le_refl _, Nat.le_refl _⟩ ?_) fun n hn => gSome hn
    rintro k ⟨c, n, v⟩ hk ⟨e1, ⟨hp, hr⟩, e3, e4, e5⟩
    dsimp only at e1 hp hr e3 ⊢
    subst e1 e3
    have hl := hp.1
    refine gIte (fun q => ?_) fun q => gSome (by have : k = E.length := by omega
                                                 subst this; rfl)
    have hk' : k < E.length := by omega
    obtain ⟨u1, u2, u3, u4⟩ := h.eu hk'
    refine gChk (by omega) ?_
    rw [toNat_nat, u1, u2]
    have ru := hr _ u3
    have rv := hr _ u4
    have fu := find_spec hp k _ u3 (by rw [ru.1]; exact ru.2.1)
    have fv := find_spec hp k _ u4 (by rw [rv.1]; exact rv.2.1)
    rw [ru.1] at fu
    rw [rv.1] at fv
    refine gBindE fu (gBindE fv (gChk (by omega) ?_))
    have hbn := bit_nat s k
    rw [toNat_nat] at hbn
    rw [hbn]
    have keep : ¬ (s.testBit k = true ∧ lab E s k (eU E k) ≠ lab E s k (eV E k)) → Rts N E s (k + 1) c := fun hh => by
      refine ⟨hp, fun x hx => ?_⟩
      have r := hr x hx
      rw [lab_keep hh]
      refine ⟨?_, r.2.1, r.2.2⟩
      rw [fnd_more (N := N) k x (by rw [r.1]; exact r.2.1), r.1]
    by_cases hb : s.testBit k = true
    · by_cases hne : lab E s k (eU E k) = lab E s k (eV E k)
      · rw [if_neg (by rw [hne]; simp)]
        refine gSome ⟨by omega, by simp, keep (fun hh => hh.2 hne), ?_, ?_, ?_⟩
        · simp only [nu, cn]; rw [if_pos ⟨hb, hne⟩, if_pos hb]; push_cast; omega
        · simp only [nu]; rw [if_pos ⟨hb, hne⟩]; omega
        · simp only [cn]; rw [if_pos hb]; omega
      · rw [if_pos ⟨by rw [if_pos hb], by omega⟩]
        refine gChk (by omega) (gChk (by omega) (gSome ⟨by omega, by simp, ?_, ?_, ?_, ?_⟩))
        · dsimp only
          rw [toNat_nat]
          have st := fnd_set hp ru.2.2 rv.2.2 ru.2.1 rv.2.1 hne
          have s1 : (c.set (lab E s k (eU E k)) (lab E s k (eV E k) : Int)).getD (lab E s k (eU E k)) 0 = (lab E s k (eV E k) : Int) := getD_set_self (by omega) _
          have s2 : ∀ x, x ≠ lab E s k (eU E k) → (c.set (lab E s k (eU E k)) (lab E s k (eV E k) : Int)).getD x 0 = c.getD x 0 := fun x hx => getD_set_ne (fun q => hx q.symm) _
          have lx : ∀ x, lab E s (k + 1) x = if lab E s k x = lab E s k (eU E k) then lab E s k (eV E k) else lab E s k x := fun x => by
            simp only [lab]; rw [if_pos ⟨hb, hne⟩]
          refine ⟨⟨by simp [hl], fun x hx => ?_⟩, fun x hx => ?_⟩
          · by_cases q2 : x = lab E s k (eU E k)
            · subst q2; rw [s1]; have := rv.2.2; omega
            · rw [s2 x q2]; exact hp.2 x hx
          · have r := hr x hx
            have := st k x (by rw [r.1]; exact r.2.1)
            rw [lx, this, r.1]
            refine ⟨rfl, ?_, ?_⟩
            · split
              · rw [s2 _ (fun q => hne q.symm)]; exact rv.2.1
              · rw [s2 _ ‹_›]; exact r.2.1
            · split
              · exact rv.2.2
              · exact r.2.2
        · simp only [nu, cn]; rw [if_neg fun hh => hne hh.2, if_pos hb]; push_cast; omega
        · simp only [nu]; rw [if_neg fun hh => hne hh.2]; omega
        · simp only [cn]; rw [if_pos hb]; omega
    · rw [if_neg (by rw [if_neg hb]; simp)]
      refine gSome ⟨by omega, by simp, keep (fun hh => hb hh.1), ?_, ?_, ?_⟩
      · simp only [nu, cn]; rw [if_neg fun hh => hb hh.1, if_neg hb]
      · simp only [nu]; rw [if_neg fun hh => hb hh.1]; omega
      · simp only [cn]; rw [if_neg hb]; omega
theorem oc_tabC : ∀ a : Fin 256, oc (a.val : Int) = ((cn a.val 8 : Nat) : Int) := of_decide_eq_true (by kernel_rfl)
theorem cn_lt {s m : Nat} (h : s < 2 ^ m) : ∀ t, cn s (m + t) = cn s m := by
 intro t
 induction t with
 | zero => rfl
 | succ t ih =>
  rw [← Nat.add_assoc, cn, if_neg, ih]
  have : s < 2 ^ (m + t) := Nat.lt_of_lt_of_le h (Nat.pow_le_pow_right (by omega) (by omega))
  rw [Nat.testBit_lt_two_pow this]; simp
theorem size_spec {s m : Nat} (hm : m ≤ 8) (h : s < 2 ^ m) : tutte_size (s : Int) = some ((cn s m : Nat) : Int) := by
 have h2 : s < 256 := Nat.lt_of_lt_of_le h (Nat.pow_le_pow_right (n := 2) (by omega) hm)
 unfold tutte_size
 rw [chk_pos (by omega)]
 simp only [bits_OnesCount, Option.bind_some]
 have := oc_tabC ⟨s, h2⟩
 have e := cn_lt h (8 - m)
 rw [show m + (8 - m) = 8 by omega] at e
 rw [← e]; exact congrArg some this
theorem cn_le (s : Nat) : ∀ k, cn s k ≤ k := by
 intro k
 induction k with
 | zero => exact Nat.le_refl _
 | succ k ih => simp only [cn]; split <;> omega
theorem sg_eq (s : Nat) : ∀ k : Nat, sg s k = 1 - 2 * (((k : Int) - cn s k) % 2) := by
 intro k
 induction k with
 | zero => rfl
 | succ k ih =>
  simp only [sg, cn]
  split
  ·rw [ih]; push_cast; omega
  ·rw [ih]; push_cast; omega
theorem cn_full {k : Nat} : ∀ j, j ≤ k → cn (2 ^ k - 1) j = j := by
 intro j
 induction j with
 | zero => intro _; rfl
 | succ j ih => intro h; rw [cn, if_pos (bit_full (by omega)), ih (by omega)]
theorem pval_set : ∀ (l : List Int) (i : Nat) (x q : Int), i < l.length → pval (l.set i (l.getD i 0 + x)) q = pval l q + x * q ^ i := by
 intro l
 induction l with
 | nil => intro i x q h; simp at h
 | cons a l ih =>
  intro i x q h
  cases i with
  | zero => simp only [List.set_cons_zero, pval, List.getD_cons_zero, Int.pow_zero]; omega
  | succ i =>
   simp only [List.set_cons_succ, pval, List.getD_cons_succ]
   rw [ih i x q (by simpa using h), Int.mul_add, Int.pow_succ]
   have : q * (x * q ^ i) = x * (q ^ i * q) := by rw [← Int.mul_assoc, Int.mul_comm q x, Int.mul_assoc, Int.mul_comm q]
   rw [this]; omega
theorem pval_rep (n : Nat) (q : Int) : pval (List.replicate n 0) q = 0 := by
 induction n with
 | zero => rfl
 | succ n ih => rw [List.replicate_succ, pval, ih]; simp
theorem Flow_spec (n : Int) (E : List (Int × Int)) : Gets (tutte_Flow n E) (fun r => (r.2 ≠ 0 ∧ r.1 = [] ∧ kinds_CheckGraph n E = some r.2) ∨ r.2 = 0 ∧ ∃ N : Nat, n = N ∧ Gra N E ∧ r.1.length = nu E (2 ^ E.length - 1) E.length + 1 ∧ (∀ i, -256 ≤ r.1.getD i 0 ∧ r.1.getD i 0 ≤ 256) ∧ ∀ q, pval r.1 q = sm (2 ^ E.length) fun s => sg s E.length * q ^ nu E s E.length) := by
 unfold tutte_Flow
 obtain ⟨y, hye, hy⟩ := CheckGraph_spec n E
 refine gBindE hye (gIte (fun q => gSome (.inl ⟨q, rfl, hye⟩)) fun q => ?_)
 obtain ⟨N, rfl, h⟩ := hy (by omega)
 have h8 := h.e8
 have h7 := h.n7
 generalize hm : E.length = m at *
 have hE : Ends N E m := h.en (by omega)
 have hpw : 2 ^ m ≤ 2 ^ 8 := Nat.pow_le_pow_right (by omega) h8
 have hp1 : 0 < 2 ^ m := Nat.pow_pos (by omega)
 have e2 : (2 : Int) ^ ((m : Nat) : Int).toNat = ((2 ^ m : Nat) : Int) := shl_nat m
 rw [e2]
 have e3 : ((2 ^ m : Nat) : Int) - 1 = ((2 ^ m - 1 : Nat) : Int) := by omega
 rw [e3]
 refine gChk (by omega) ?_
 have hps : ∀ s : Nat, Gets (tutte_parted N E (s : Int)) (fun r => r = (N : Int) + nu E s m - cn s m) := fun s => by have := parted_spec h s; rwa [hm] at this
 refine gBind (hps _) fun y1 hy1 => ?_
 have hcf : cn (2 ^ m - 1) m = m := cn_full m (Nat.le_refl _)
 have hnm : ∀ s, nu E s m ≤ nu E (2 ^ m - 1) m := fun s => nu_mono hE fun i hi _ => bit_full hi
 have hnb : nu E (2 ^ m - 1) m ≤ m := by
  have : ∀ k, nu E (2 ^ m - 1) k ≤ k := by
   intro k
   induction k with
   | zero => exact Nat.le_refl _
   | succ k ih => simp only [nu]; split <;> omega
  exact this m
 have ey : (m : Int) - N + y1 + 1 = ((nu E (2 ^ m - 1) m + 1 : Nat) : Int) := by rw [hy1, hcf]; push_cast; omega
 refine gChk (by omega) (gChk (by omega) (gChk (by omega) ?_))
 rw [ey, toNat_nat]
 refine gBind (R := fun l : List Int => l.length = nu E (2 ^ m - 1) m + 1 ∧ (∀ i, -256 ≤ l.getD i 0 ∧ l.getD i 0 ≤ 256) ∧ ∀ q, pval l q = sm (2 ^ m) fun s => sg s m * q ^ nu E s m) (gFor (2 ^ m) (fun (k : Nat) (z : List Int × Int) => z.2 = (k : Int) ∧ z.1.length = nu E (2 ^ m - 1) m + 1 ∧ (∀ i : Nat, -(k : Int) ≤ z.1.getD i 0 ∧ z.1.getD i 0 ≤ (k : Int)) ∧ ∀ q, pval z.1 q = sm k fun s => sg s m * q ^ nu E s m) (Nat.zero_le _) ⟨rfl, by simp, fun i => by
   have : (List.replicate (nu E (2 ^ m - 1) m + 1) (0 : Int)).getD i 0 = 0 := by
    rw [List.getD_eq_getElem?_getD, List.getElem?_replicate]; split <;> rfl
   dsimp only; rw [this]; omega, fun q => pval_rep _ q⟩ ?_) fun l hl => gSome (.inr ⟨rfl, N, rfl, h, hl⟩)
 rintro k ⟨l, v⟩ hk ⟨e1, e4, e5, e6⟩
 dsimp only at e1 e4 e5 e6 ⊢
 subst e1
 refine gIte (fun q => ?_) fun q => gSome (by
  have : k = 2 ^ m := by omega
  subst this; exact ⟨e4, fun i => by have := e5 i; omega, e6⟩)
 have hk' : k < 2 ^ m := by omega
 have hsz := size_spec (by omega : m ≤ 8) hk'
 have hcl := cn_le k m
 have hnk := hnm k
 refine gBindE hsz (gChk (by omega) (gBind (hps k) fun y3 hy3 => ?_))
 have ei : (cn k m : Int) - N + y3 = (nu E k m : Int) := by rw [hy3]; omega
 rw [ei]
 refine gChk (by omega) (gBindE hsz ?_)
 have es : 1 - 2 * Int.tmod ((m : Int) - (cn k m : Int)) 2 = sg k m := by rw [sg_eq, Int.tmod_eq_emod_of_nonneg (by omega)]
 have hsb : -1 ≤ sg k m ∧ sg k m ≤ 1 := by rw [sg_eq]; omega
 have hmd : 0 ≤ Int.tmod ((m : Int) - (cn k m : Int)) 2 ∧ Int.tmod ((m : Int) - (cn k m : Int)) 2 ≤ 1 := by rw [Int.tmod_eq_emod_of_nonneg (by omega)]; omega
 rw [es, toNat_nat]
 have h5 := e5 (nu E k m)
 refine gChk (by omega) (gSome ⟨by omega, by simp, by simp [e4], fun i => ?_, fun q => ?_⟩)
 ·dsimp only
  by_cases hi : nu E k m = i
  ·subst hi; rw [getD_set_self (by omega)]; push_cast; omega
  ·rw [getD_set_ne hi]; have := e5 i; push_cast; omega
 ·dsimp only
  rw [pval_set _ _ _ _ (by omega), e6 q]; rfl
end Go.SH
