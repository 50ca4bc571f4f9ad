/-
 Package codes as it computes: which places are not nought in some word, and how few words have all of them. Conditions: none.
-/
import Derived.Test.YtlpikingpnenkaaLcB
set_option linter.unusedSimpArgs false
set_option linter.unusedVariables false
set_option linter.unusedSectionVars false
namespace Go.SH
open Go Go.AX
section
variable {p : Nat} [NeZero p]
/-- The places at which a word is not nought. -/
def sp : Nat → (Nat → Fin p) → Nat
 | 0, _ => 0
 | n + 1, x => sp n x ||| (if x n = 0 then 0 else 2 ^ n)
theorem sp_bit (x : Nat → Fin p) (j : Nat) : ∀ n, (sp n x).testBit j = (decide (j < n) && decide (x j ≠ 0))
 | 0 => by simp [sp]
 | n + 1 => by
  rw [sp, Nat.testBit_or, sp_bit x j n]
  by_cases c : x n = 0
  ·rw [if_pos c, Bool.eq_iff_iff]
   simp only [Bool.or_eq_true, Bool.and_eq_true, decide_eq_true_eq, Nat.zero_testBit, Bool.false_eq_true, or_false]
   constructor
   ·rintro ⟨h1, h2⟩; exact ⟨by omega, h2⟩
   ·rintro ⟨h1, h2⟩
    refine ⟨?_, h2⟩
    rcases Classical.em (j = n) with e | e
    ·subst e; exact absurd c h2
    ·omega
  ·rw [if_neg c, testBit_pow, Bool.eq_iff_iff]
   simp only [Bool.or_eq_true, Bool.and_eq_true, decide_eq_true_eq]
   constructor
   ·rintro (⟨h1, h2⟩ | rfl)
    ·exact ⟨by omega, h2⟩
    ·exact ⟨by omega, c⟩
   ·rintro ⟨h1, h2⟩
    rcases Classical.em (n = j) with e | e
    ·exact .inr e
    ·exact .inl ⟨by omega, h2⟩
theorem sp_lt (n : Nat) (x : Nat → Fin p) : sp n x < 2 ^ n := lt_of_bits fun i hi => by
 rw [sp_bit]; simp; omega
theorem sp_congr {n : Nat} {x y : Nat → Fin p} (h : ∀ j, j < n → x j = y j) : sp n x = sp n y := Nat.eq_of_testBit_eq fun j => by
 rw [sp_bit, sp_bit]
 by_cases c : j < n
 ·rw [h j c]
 ·simp [c]
theorem getD_setB (q : List Bool) {s : Nat} (hs : s < q.length) (t : Nat) : (q.set s true).getD t false = true ↔ q.getD t false = true ∨ t = s := by
 simp only [List.getD_eq_getElem?_getD, List.getElem?_set]
 by_cases c : s = t
 ·subst c; simp [hs]
 ·rw [if_neg c]
  constructor
  ·exact .inl
  ·rintro (h | h)
   ·exact h
   ·exact absurd h.symm c
theorem shl01 {j : Nat} (hj : j < 8) : shlOk .i64 0 (j : Int) = true ∧ shlOk .i64 1 (j : Int) = true := by
 rcases (show j = 0 ∨ j = 1 ∨ j = 2 ∨ j = 3 ∨ j = 4 ∨ j = 5 ∨ j = 6 ∨ j = 7 by omega) with rfl | rfl | rfl | rfl | rfl | rfl | rfl | rfl <;> decide
theorem Critical_1_spec {n : Nat} (hn : n ≤ 8) {w : List Int} {q0 : List Bool} {u : Nat → Fin p} (h : Wd n w u) (hq : q0.length = 2 ^ n) :
  Gets (codes_Critical_1 w q0) (fun z => z.length = 2 ^ n ∧ ∀ t, z.getD t false = true ↔ q0.getD t false = true ∨ t = sp n u) := by
 unfold codes_Critical_1
 refine gBind (R := fun k => k = ((sp n u : Nat) : Int)) (gFor n (fun j (x : Int × Int) => x.2 = (j : Int) ∧ x.1 = ((sp j u : Nat) : Int)) (Nat.zero_le _) ⟨rfl, rfl⟩ ?_) ?_
 ·rintro j ⟨_, _⟩ hj ⟨rfl, rfl⟩
  simp only [toNat_nat]
  rw [h.len]
  refine gIte (fun c => ?_) fun c => gSome (by rw [show j = n by omega])
  have hjn : j < n := by omega
  have hbd := h.bd j hjn
  have hv := h.val j hjn
  have e : min (w.getD j 0) 1 = if u j = 0 then 0 else 1 := by
   by_cases q : u j = 0
   ·rw [if_pos q]
    have := (cF_eq0 hbd).1 (by rw [hv, q])
    omega
   ·rw [if_neg q]
    have : w.getD j 0 ≠ 0 := fun z => q (by rw [← hv, z, cF_zero])
    omega
  have hs := shl01 (show j < 8 by omega)
  refine gChk (by omega) (gChk (by rw [e]; split; exact hs.1; exact hs.2) (gSome ⟨hjn, by simp, ?_⟩))
  show ior _ _ = _
  rw [e, sp]
  by_cases q : u j = 0
  ·rw [if_pos q, if_pos q]
   simp only [Int.zero_mul]
   exact or_nat _ 0
  ·rw [if_neg q, if_neg q, Int.one_mul, shl_nat']
   exact or_nat _ _
 ·rintro _ rfl
  have hl := sp_lt n u
  simp only [toNat_nat]
  refine gChk (by omega) (gSome ⟨by rw [List.length_set]; exact hq, fun t => getD_setB q0 (by omega) t⟩)
theorem each_1_spec {n k : Nat} (hn : n ≤ 8) (hp1 : 1 < p) (h7 : p ≤ 7) (hk : k ≤ 6) {Y : List (List Int)} (hY : MOk p k n Y) (c0 c1 c2 : Int) (c3 : List (List Int)) : ∀ r i fuel, i + r = k → r < fuel → ∀ (q0 : List Bool) (w : List Int) (u : Nat → Fin p), Wd n w u → q0.length = 2 ^ n →
  Gets (codes_each_1 fuel i c0 c1 Y p c2 c3 q0 w) (fun z => z.2 = w ∧ z.1.length = 2 ^ n ∧ ∀ t, z.1.getD t false = true ↔ q0.getD t false = true ∨ ∃ a : Nat → Fin p, t = sp n fun j => u j + cx (MF p Y) r i a j) := by
 intro r
 induction r with
 | zero =>
  intro i fuel hi hf q0 w u hw hq
  obtain ⟨f, rfl⟩ : ∃ f, fuel = f + 1 := ⟨fuel - 1, by omega⟩
  rw [codes_each_1.eq_2]
  refine gIte (fun _ => ?_) fun c => absurd (by rw [hY.len]; omega) c
  refine gBind (Critical_1_spec hn hw hq) fun z hz => gSome ⟨rfl, hz.1, fun t => ?_⟩
  have e : ∀ a : Nat → Fin p, (fun j => u j + cx (MF p Y) 0 i a j) = u := fun a => funext fun j => as3 _
  rw [hz.2 t]
  constructor
  ·rintro (h | h)
   ·exact .inl h
   ·exact .inr ⟨fun _ => 0, by rw [e]; exact h⟩
  ·rintro (h | ⟨a, h⟩)
   ·exact .inl h
   ·rw [e] at h; exact .inr h
 | succ r ih =>
  intro i fuel hi hf q0 w u hw hq
  obtain ⟨f, rfl⟩ : ∃ f, fuel = f + 1 := ⟨fuel - 1, by omega⟩
  rw [codes_each_1.eq_2]
  have hik : i < k := by omega
  have hrow := hY.row i hik
  refine gIte (fun c => absurd c (by rw [hY.len]; omega)) fun _ => ?_
  refine gBind (R := fun z => z.2 = w ∧ z.1.length = 2 ^ n ∧ ∀ t, z.1.getD t false = true ↔ q0.getD t false = true ∨ ∃ a : Nat → Fin p, t = sp n fun j => u j + cx (MF p Y) (r + 1) i a j) (gFor p (fun c (x : List Bool × List Int × Int) => x.2.2 = (c : Int) ∧ Wd n x.2.1 (fun j => u j + cF p (c : Int) * MF p Y i j) ∧ x.1.length = 2 ^ n ∧ ∀ t, x.1.getD t false = true ↔ q0.getD t false = true ∨ ∃ (b : Nat) (a : Nat → Fin p), b < c ∧ t = sp n fun j => u j + cF p (b : Int) * MF p Y i j + cx (MF p Y) r (i + 1) a j) (Nat.zero_le _) ⟨rfl, ?_, hq, fun t => ⟨.inl, ?_⟩⟩ ?_) ?_
  ·have e : (fun j => u j + cF p ((0 : Nat) : Int) * MF p Y i j) = u := funext fun j => ad2 _ _ _ (by simpa using cF_zero (p := p))
   rw [e]; exact hw
  ·rintro (h | ⟨b, a, hb, _⟩)
   ·exact h
   ·omega
  ·rintro c ⟨q, w1, _⟩ hc ⟨rfl, hw1, hq1, hqv⟩
   dsimp only at hw1 hq1 hqv
   simp only [toNat_nat]
   refine gIte (fun hlt => ?_) fun hlt => ?_
   ·have hcp : c < p := by omega
    refine gChk (by omega) (gBind (ih (i + 1) f (by omega) (by omega) q w1 _ hw1 hq1) ?_)
    rintro y ⟨y1, y2, y3⟩
    rw [y1]
    refine gChk (by rw [hY.len]; omega) ?_
    refine gBind (R := fun z => Wd n z (fun j => u j + cF p ((c + 1 : Nat) : Int) * MF p Y i j)) (gFor n (fun j (x : List Int × Int) => x.2 = (j : Int) ∧ x.1.length = n ∧ ∀ l, l < n → x.1.getD l 0 = if l < j then Int.tmod (w1.getD l 0 + ent Y i l) p else w1.getD l 0) (Nat.zero_le _) ⟨rfl, hw1.len, fun l _ => by rw [if_neg (by omega)]⟩ ?_) ?_
    ·rintro j ⟨v, _⟩ hj ⟨rfl, g1, g2⟩
     simp only [toNat_nat] at g1 g2 ⊢
     simp only [hrow]
     refine gIte (fun h1 => ?_) fun h1 => gSome ?_
     ·have hjn : j < n := by omega
      have b1 := hw1.bd j hjn
      have b2 := hY.bd i hik j hjn
      have e := g2 j hjn
      rw [if_neg (by omega)] at e
      unfold ent at b2
      simp only [e]
      refine gChk (by omega) (gChk ⟨by omega, by omega, by omega⟩ (gSome ⟨hjn, by simp, by rw [List.length_set]; exact g1, fun l hl => ?_⟩))
      rw [setI_getD _ (by omega)]
      by_cases c2 : l = j
      ·subst c2
       rw [if_pos rfl, if_pos (by omega)]; rfl
      ·rw [if_neg c2, g2 l hl]
       by_cases c3 : l < j
       ·rw [if_pos c3, if_pos (by omega)]
       ·rw [if_neg c3, if_neg (by omega)]
     ·have ej : j = n := by omega
      subst ej
      refine ⟨g1, fun l hl => ?_, fun l hl => ?_⟩
      ·have b1 := hw1.bd l hl
       have b2 := hY.bd i hik l hl
       rw [g2 l hl, if_pos hl]
       exact tmod_bd (by omega)
      ·have b1 := hw1.bd l hl
       have b2 := hY.bd i hik l hl
       rw [g2 l hl, if_pos hl, cF_tmod (by omega), cF_add, hw1.val l hl, show ((c + 1 : Nat) : Int) = (c : Int) + 1 from rfl, cF_add, cF_one hp1]
       exact ad1 _ _ _
    ·intro z hz
     refine gSome ⟨hcp, by simp, hz, y2, fun t => ?_⟩
     rw [y3 t, hqv t]
     constructor
     ·rintro ((h | ⟨b, a, hb, h⟩) | ⟨a, h⟩)
      ·exact .inl h
      ·exact .inr ⟨b, a, by omega, h⟩
      ·exact .inr ⟨c, a, by omega, h⟩
     ·rintro (h | ⟨b, a, hb, h⟩)
      ·exact .inl (.inl h)
      ·rcases Classical.em (b = c) with e | e
       ·subst e; exact .inr ⟨a, h⟩
       ·exact .inl (.inr ⟨b, a, by omega, h⟩)
   ·have ec : c = p := by omega
    subst ec
    refine gSome ⟨?_, hq1, fun t => ?_⟩
    ·have e : (fun j => u j + cF c (c : Int) * MF c Y i j) = u := funext fun j => ad2 _ _ _ cF_self
     rw [e] at hw1
     exact hw1.ext hw
    ·rw [hqv t]
     constructor
     ·rintro (h | ⟨b, a, hb, h⟩)
      ·exact .inl h
      ·refine .inr ⟨csu (cF c (b : Int)) a, ?_⟩
       rw [h]
       exact sp_congr fun j _ => by rw [cx_csu, as1]
     ·rintro (h | ⟨a, h⟩)
      ·exact .inl h
      ·refine .inr ⟨(a 0).val, fun l => a (l + 1), (a 0).isLt, ?_⟩
       rw [h]
       exact sp_congr fun j _ => by rw [cx_succ, cF_fin, as1]
  ·rintro ⟨a, b⟩ ⟨z1, z2, z3⟩
   exact gSome ⟨z1, z2, z3⟩
/-- So many words have just these places together. -/
def Un (k n : Nat) (M : Nat → Nat → Fin p) : Nat → Nat → Prop
 | 0, s => s = 0
 | t + 1, s => ∃ (s' : Nat) (a : Nat → Fin p), Un k n M t s' ∧ s = s' ||| sp n (cw k M a)
variable {k n : Nat} {M : Nat → Nat → Fin p}
theorem Un.lt : ∀ {t s}, Un k n M t s → s < 2 ^ n
 | 0, s, h => by rw [show s = 0 from h]; exact Nat.pow_pos (by omega)
 | t + 1, s, ⟨s', a, h, e⟩ => by rw [e]; exact or_lt h.lt (sp_lt n _)
theorem zr_sp {Z s : Nat} (hZ : Z < 2 ^ n) (x : Nat → Fin p) : Inc (Z &&& zr n x) s ↔ Inc Z (s ||| sp n x) := by
 constructor
 ·intro h j hj
  have hjn := bit_lt hZ hj
  rw [Nat.testBit_or, sp_bit]
  by_cases c : x j = 0
  ·rw [h j (by rw [Nat.testBit_and, hj, zr_bit]; simp [hjn, c])]; rfl
  ·simp [hjn, c]
 ·intro h j hj
  rw [Nat.testBit_and, zr_bit] at hj
  simp only [Bool.and_eq_true, decide_eq_true_eq] at hj
  have := h j hj.1
  rw [Nat.testBit_or, sp_bit] at this
  simpa [hj.2.1, hj.2.2] using this
theorem Rc_Un : ∀ t Z, Z < 2 ^ n → (Rc k n M t Z ↔ ∃ s, Un k n M t s ∧ Inc Z s)
 | 0, Z, hZ => by
  simp only [Rc, Un]
  constructor
  ·rintro rfl; exact ⟨0, rfl, Inc.refl _⟩
  ·rintro ⟨_, rfl, h⟩; exact h.antisymm (inc_zero _)
 | t + 1, Z, hZ => by
  simp only [Rc, Un]
  constructor
  ·rintro ⟨a, ha⟩
   obtain ⟨s, h1, h2⟩ := (Rc_Un t _ (and_lt hZ)).1 ha
   exact ⟨_, ⟨s, a, h1, rfl⟩, (zr_sp hZ _).1 h2⟩
  ·rintro ⟨_, ⟨s, a, h1, rfl⟩, h2⟩
   exact ⟨a, (Rc_Un t _ (and_lt hZ)).2 ⟨s, h1, (zr_sp hZ _).2 h2⟩⟩
theorem Un_full (t : Nat) : Un k n M t (2 ^ n - 1) ↔ Rc k n M t (2 ^ n - 1) := by
 have hpos : 0 < 2 ^ n := Nat.pow_pos (by omega)
 rw [Rc_Un t _ (by omega)]
 constructor
 ·intro h; exact ⟨_, h, Inc.refl _⟩
 ·rintro ⟨s, h1, h2⟩
  have : s = 2 ^ n - 1 := Inc.antisymm (fun i hi => by rw [full_bit]; simpa using bit_lt h1.lt hi) h2
  rwa [← this]
theorem cx0 (a : Nat → Fin p) : cx M k 0 a = cw k M a := funext fun j => by
 unfold cx cw
 exact Sm_congr fun l _ => by rw [Nat.zero_add]
/-- What Critical answers. -/
def CritOf (k n : Nat) (M : Nat → Nat → Fin p) (y : Int × Int) : Prop :=
 (y.2 = 0 ∧ ∃ c : Nat, y.1 = c ∧ c ≤ n ∧ Un k n M c (2 ^ n - 1) ∧ ∀ t, t < c → ¬ Un k n M t (2 ^ n - 1)) ∨ (y.2 = 5 ∧ y.1 = 0 ∧ ∀ t, t ≤ n → ¬ Un k n M t (2 ^ n - 1))
theorem rep0B (m t : Nat) : (List.replicate m false).getD t false = false := by
 rw [List.getD_eq_getElem?_getD, List.getElem?_replicate]
 split <;> rfl
theorem Critical_spec (hp : Fld p) (hp1 : 1 < p) (h7 : p ≤ 7) {r n : Nat} {X : List (List Int)} (hX : MOk p r n X) (hr : r ≤ 6) (hn : n ≤ 8) (hc : CM p n X) :
  Gets (codes_Critical p n X) (fun y => (y.2 = 2 ∧ y.1 = 0 ∧ ∃ (k : Nat) (h : Nat → Nat) (Y : List (List Int)), RedOf p r n X k h Y ∧ 20000 < p ^ k) ∨ ∃ (k : Nat) (h : Nat → Nat) (Y : List (List Int)), RedOf p r n X k h Y ∧ CritOf k n (MF p Y) y) := by
 have h256 := pow_le8 hn
 have hpos : 0 < 2 ^ n := Nat.pow_pos (by omega)
 unfold codes_Critical
 refine gBind (CM.good hc) ?_
 rintro _ rfl
 refine gIte (fun q => absurd rfl q) fun _ => ?_
 have e2 : (2 : Int) ^ (n : Int).toNat = ((2 ^ n : Nat) : Int) := shl_nat n
 simp only [e2]
 refine gChk ⟨by omega, by omega⟩ ?_
 rw [toNat_nat]
 have each : Gets (codes_each p n X (List.replicate (2 ^ n) false)) (fun y => (y.1 = 2 ∧ ∃ (k : Nat) (h : Nat → Nat) (Y : List (List Int)), RedOf p r n X k h Y ∧ 20000 < p ^ k) ∨ (y.1 = 0 ∧ y.2.length = 2 ^ n ∧ ∃ (k : Nat) (h : Nat → Nat) (Y : List (List Int)), RedOf p r n X k h Y ∧ ∀ t, y.2.getD t false = true ↔ ∃ a : Nat → Fin p, t = sp n (cw k (MF p Y) a))) := by
  unfold codes_each
  refine gBind (Reduced_spec hp h7 hX hr hn hc) ?_
  rintro _ ⟨k, h, Y, rfl, hR⟩
  dsimp only
  have hk6 : k ≤ 6 := Nat.le_trans hR.1 hr
  have hlen := hR.2.1.len
  refine gBind (R := fun n1 => n1 = ((p ^ k : Nat) : Int)) (gFor k (fun v (x : Int × Int) => x.2 = (v : Int) ∧ x.1 = ((p ^ v : Nat) : Int)) (Nat.zero_le _) ⟨rfl, by simp⟩ ?_) ?_
  ·rintro v ⟨_, _⟩ hv ⟨rfl, rfl⟩
   simp only
   rw [hlen]
   refine gIte (fun c => ?_) fun c => gSome (by rw [show v = k by omega])
   have hvk : v < k := by omega
   have e : ((p ^ v : Nat) : Int) * (p : Int) = ((p ^ (v + 1) : Nat) : Int) := by rw [Nat.pow_succ, Int.natCast_mul]
   have := pow7 (r := v + 1) h7 (by omega)
   rw [e]
   exact gChk (by omega) (gChk (by omega) (gSome ⟨hvk, by simp, rfl⟩))
  ·rintro _ rfl
   refine gIte (fun q => gSome (.inl ⟨rfl, k, h, Y, hR, by omega⟩)) fun _ => gChk (by omega) ?_
   rw [toNat_nat]
   refine gBind (each_1_spec hn hp1 h7 hk6 hR.2.1 _ _ _ _ k 0 12 (by omega) (by omega) _ _ (fun _ => 0) ⟨by simp, fun j hj => ?_, fun j hj => ?_⟩ (by simp)) ?_
   ·rw [List.getD_eq_getElem?_getD, List.getElem?_replicate]; simp [hj]; omega
   ·rw [List.getD_eq_getElem?_getD, List.getElem?_replicate]; simp [hj, cF_zero]
   ·rintro y ⟨y1, y2, y3⟩
    refine gSome (.inr ⟨rfl, y2, k, h, Y, hR, fun t => ?_⟩)
    rw [y3 t, rep0B]
    have e : ∀ a : Nat → Fin p, (sp n fun j => (0 : Fin p) + cx (MF p Y) k 0 a j) = sp n (cw k (MF p Y) a) := fun a => sp_congr fun j _ => by rw [cx0]; grind
    constructor
    ·rintro (h | ⟨a, h⟩)
     ·cases h
     ·exact ⟨a, by rw [h]; exact e a⟩
    ·rintro ⟨a, h⟩
     exact .inr ⟨a, by rw [h]; exact (e a).symm⟩
 refine gBind each fun y hy => ?_
 rcases hy with ⟨hy, hB⟩ | ⟨hy, hl, k, h, Y, hR, hs⟩
 ·exact gIte (fun _ => gSome (.inl ⟨hy, rfl, hB⟩)) fun q => absurd (by rw [hy]; decide) q
 refine gIte (fun q => absurd hy q) fun _ => ?_
 rw [hl, toNat_nat]
 refine gChk (by omega) (gChk ⟨by omega, by simp; omega⟩ ?_)
 refine Gets.mono (Q := CritOf k n (MF p Y)) ?_ fun z hz => .inr ⟨k, h, Y, hR, hz⟩
 refine gBind (R := fun z : Unit ⊕ (Int × Int) => CritOf k n (MF p Y) (match z with | .inl _ => (0, 5) | .inr rr => rr))
  (gFor (n + 1) (fun c (x : List Bool × Int) => x.2 = (c : Int) ∧ x.1.length = 2 ^ n ∧ (∀ s, x.1.getD s false = true ↔ Un k n (MF p Y) c s) ∧ ∀ t, t < c → ¬ Un k n (MF p Y) t (2 ^ n - 1)) (Nat.zero_le _) ⟨rfl, by simp, fun s => ?_, fun t ht => by omega⟩ ?_) ?_
 ·rw [getD_setB _ (by simp; omega), rep0B]
  simp [Un]
 ·rintro c ⟨v, _⟩ hc ⟨rfl, v1, v2, v3⟩
  dsimp only at v1 v2 v3
  simp only [v1]
  refine gIte (fun o1 => ?_) fun o1 => gSome (.inr ⟨rfl, rfl, fun t ht => v3 t (by omega)⟩)
  have e1 : (((2 ^ n : Nat) : Int) - 1).toNat = 2 ^ n - 1 := by omega
  rw [e1]
  refine gChk ⟨by omega, by omega, by omega⟩ (gIte (fun q => gSome (.inl ⟨rfl, c, rfl, by omega, (v2 _).1 q, v3⟩)) fun q => gChk (by omega) ?_)
  rw [toNat_nat]
  have hno : ¬ Un k n (MF p Y) c (2 ^ n - 1) := fun z => q ((v2 _).2 z)
  refine gBind (R := fun z => z.length = 2 ^ n ∧ ∀ s, z.getD s false = true ↔ Un k n (MF p Y) (c + 1) s)
   (gFor (2 ^ n) (fun i (x : List Bool × Int) => x.2 = (i : Int) ∧ x.1.length = 2 ^ n ∧ ∀ s, x.1.getD s false = true ↔ ∃ (a b : Nat), a < i ∧ v.getD a false = true ∧ y.2.getD b false = true ∧ s = a ||| b) (Nat.zero_le _) ⟨rfl, by simp, fun s => ?_⟩ ?_) ?_
  ·rw [rep0B]
   exact ⟨fun h => (by cases h), fun ⟨a, b, h, _⟩ => by omega⟩
  ·rintro i ⟨z, _⟩ hi ⟨rfl, z1, z2⟩
   dsimp only at z1 z2
   simp only
   refine gIte (fun o2 => ?_) fun o2 => gSome ⟨z1, fun s => ?_⟩
   ·have hin : i < 2 ^ n := by omega
    refine gBind (R := fun z' => z'.length = 2 ^ n ∧ ∀ s, z'.getD s false = true ↔ z.getD s false = true ∨ ∃ b, v.getD i false = true ∧ y.2.getD b false = true ∧ s = i ||| b)
     (gFor (2 ^ n) (fun j (x : List Bool × Int) => x.2 = (j : Int) ∧ x.1.length = 2 ^ n ∧ ∀ s, x.1.getD s false = true ↔ z.getD s false = true ∨ ∃ b, b < j ∧ v.getD i false = true ∧ y.2.getD b false = true ∧ s = i ||| b) (Nat.zero_le _) ⟨rfl, z1, fun s => ⟨.inl, ?_⟩⟩ ?_) ?_
    ·rintro (h | ⟨b, hb, _⟩)
     ·exact h
     ·omega
    ·rintro j ⟨x, _⟩ hj ⟨rfl, x1, x2⟩
     dsimp only at x1 x2
     simp only [toNat_nat]
     refine gIte (fun o3 => ?_) fun o3 => gSome ⟨x1, fun s => ?_⟩
     ·have hjn : j < 2 ^ n := by omega
      have hor : ior (i : Int) (j : Int) = ((i ||| j : Nat) : Int) := or_nat i j
      have hlt := or_lt hin hjn
      rw [hor, toNat_nat, x1]
      refine gChk ⟨by omega, by omega, fun _ => by omega, by omega, fun _ => by omega, by omega⟩ (gChk (by omega) (gSome ⟨hjn, by simp, by rw [List.length_set]; exact x1, fun s => ?_⟩))
      have gs : ∀ b : Bool, (x.set (i ||| j) b).getD s false = if s = i ||| j then b else x.getD s false := fun b => by
       simp only [List.getD_eq_getElem?_getD, List.getElem?_set]
       by_cases c : i ||| j = s
       ·rw [if_pos c, if_pos c.symm, if_pos (by omega)]; rfl
       ·rw [if_neg c, if_neg (Ne.symm c)]
      rw [gs]
      by_cases e : s = i ||| j
      ·rw [if_pos e, decide_eq_true_eq, ← e, x2]
       constructor
       ·rintro ((h | ⟨b, h1, h2⟩) | ⟨h1, h2⟩)
        ·exact .inl h
        ·exact .inr ⟨b, by omega, h2⟩
        ·exact .inr ⟨j, by omega, h1, h2, e⟩
       ·rintro (h | ⟨b, h1, h2, h3, h4⟩)
        ·exact .inl (.inl h)
        ·rcases Classical.em (b = j) with g | g
         ·subst g; exact .inr ⟨h2, h3⟩
         ·exact .inl (.inr ⟨b, by omega, h2, h3, h4⟩)
      ·rw [if_neg e, x2]
       constructor
       ·rintro (h | ⟨b, h1, h2⟩)
        ·exact .inl h
        ·exact .inr ⟨b, by omega, h2⟩
       ·rintro (h | ⟨b, h1, h2, h3, h4⟩)
        ·exact .inl h
        ·rcases Classical.em (b = j) with g | g
         ·subst g; exact absurd h4 e
         ·exact .inr ⟨b, by omega, h2, h3, h4⟩
     ·rw [x2 s]
      constructor
      ·rintro (h | ⟨b, h1, h2⟩)
       ·exact .inl h
       ·exact .inr ⟨b, h2⟩
      ·rintro (h | ⟨b, h2, h3, h4⟩)
       ·exact .inl h
       ·have : b < 2 ^ n := by
         obtain ⟨a, ha⟩ := (hs b).1 h3
         rw [ha]; exact sp_lt n _
        exact .inr ⟨b, by omega, h2, h3, h4⟩
    ·rintro z' ⟨z1', z2'⟩
     refine gSome ⟨hin, by simp, z1', fun s => ?_⟩
     rw [z2' s, z2 s]
     constructor
     ·rintro (⟨a, b, h1, h2⟩ | ⟨b, h1, h2⟩)
      ·exact ⟨a, b, by omega, h2⟩
      ·exact ⟨i, b, by omega, h1, h2⟩
     ·rintro ⟨a, b, h1, h2, h3⟩
      rcases Classical.em (a = i) with g | g
      ·subst g; exact .inr ⟨b, h2, h3⟩
      ·exact .inl ⟨a, b, by omega, h2, h3⟩
   ·rw [z2 s]
    show _ ↔ ∃ _ _, _
    constructor
    ·rintro ⟨a, b, h1, h2, h3, h4⟩
     obtain ⟨w, hw⟩ := (hs b).1 h3
     exact ⟨a, w, (v2 a).1 h2, by rw [h4, hw]⟩
    ·rintro ⟨a, w, h1, h2⟩
     have := h1.lt
     exact ⟨a, _, by omega, (v2 a).2 h1, (hs _).2 ⟨w, rfl⟩, h2⟩
  ·rintro z ⟨z1, z2⟩
   refine gChk (by omega) (gSome ⟨by omega, by simp, z1, z2, fun t ht => ?_⟩)
   rcases Classical.em (t = c) with e | e
   ·subst e; exact hno
   ·exact v3 t (by omega)
 ·rintro (z | z) hz
  ·exact gSome hz
  ·exact gSome hz
end
end Go.SH
