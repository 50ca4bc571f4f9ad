/-
 The law CodesCritical: CRAPO, ROTA: so many words, one of which is not nought at each place, are there just if the characteristic polynomial is not nought there. Conditions: none.
-/
import Derived.Test.YtlpikingpnenkaaLcC
import Derived.Test.YtlpikingpnenkaaSprotakeep
import Derived.Test.YtlpikingpnenkaaSkCodesCritical
set_option linter.unusedSimpArgs false
set_option linter.unusedVariables false
set_option linter.unusedSectionVars false
namespace Go.SH
open Go Go.AX
theorem pval_drop (c : List Int) (q : Int) {k : Nat} (hk : k < c.length) : pval (c.drop k) q = c.getD k 0 + q * pval (c.drop (k + 1)) q := by
 rw [List.drop_eq_getElem_cons hk, pval, List.getD_eq_getElem?_getD, List.getElem?_eq_getElem hk]; rfl
theorem val_bd {x q v : Int} {m : Nat} (hx : (x.natAbs : Int) < 18446744073709551616) (hq : (q.natAbs : Int) < 18446744073709551616) (hv : (v.natAbs : Int) < wB m) : ((v * q).natAbs : Int) < wB (m + 2) ∧ ((x + q * v).natAbs : Int) < wB (m + 4) := by
 have e2 : wB (m + 2) = 18446744073709551616 * wB m := by rw [wBs, wBs]; omega
 have e4 : wB (m + 4) = 18446744073709551616 * wB (m + 2) := by rw [wBs, wBs]; omega
 have hp := wB_pos m
 have h1 : ((v * q).natAbs : Int) = (q.natAbs : Int) * (v.natAbs : Int) := by rw [Int.natAbs_mul, Nat.mul_comm]; simp
 have h2 : (q.natAbs : Int) * (v.natAbs : Int) ≤ 18446744073709551615 * (v.natAbs : Int) := Int.mul_le_mul_of_nonneg_right (by omega) (by omega)
 have h3 : ((q * v).natAbs : Int) = (q.natAbs : Int) * (v.natAbs : Int) := by rw [Int.natAbs_mul]; simp
 refine ⟨by omega, ?_⟩
 omega
theorem value_spec {c : List Int} {q : Int} (hc : ∀ i, i < c.length → -9223372036854775808 ≤ c.getD i 0 ∧ c.getD i 0 < 9223372036854775808) (hq : -9223372036854775808 ≤ q ∧ q < 9223372036854775808) (hl : c.length ≤ 1000) :
  Gets (rotakeep_value c q) (fun r => Bg r (pval c q)) := by
 unfold rotakeep_value
 refine gChk (by omega) ?_
 refine gBind (R := fun z : Bool × List Int => Bg z (pval c q)) (gLoop (fun s : Bool × List Int × Int => ∃ k : Nat, s.2.2 = (k : Int) - 1 ∧ k ≤ c.length ∧ Bg (s.1, s.2.1) (pval (c.drop k) q) ∧ ((pval (c.drop k) q).natAbs : Int) < wB (4 * (c.length - k) + 1)) (fun s => (s.2.2 + 1).toNat) ⟨c.length, rfl, Nat.le_refl _, ?_, ?_⟩ ?_) fun z hz => gSome hz
 ·rw [List.drop_length]; exact Bg.nil
 ·rw [List.drop_length]; exact wB_pos _
 ·rintro ⟨a, b, i⟩ ⟨k, hi, hk, hb, hw⟩
  dsimp only at hi hb hw ⊢
  subst hi
  refine gIte (fun h => ?_) fun h => gSome ?_
  ·have hkc : k - 1 < c.length := by omega
   have e1 : ((k : Int) - 1).toNat = k - 1 := by omega
   have hx := hc (k - 1) hkc
   have pd := pval_drop c q hkc
   rw [show k - 1 + 1 = k by omega] at pd
   have bd := val_bd (x := c.getD (k - 1) 0) (q := q) (v := pval (c.drop k) q) (by omega) (by omega) hw
   have hln := hb.len hw
   have hq2 : (q.natAbs : Int) < wB 2 := by show _ < (4294967296 : Int) ^ 2; omega
   refine gBind (newInt_spec hq.1 hq.2) fun y hy => ?_
   refine gBind (mulI_spec (x := (a, b)) (y := (y.1, y.2)) hb hy (by show b.length < _; dsimp only at hln; omega) (by have := hy.len hq2; show y.2.length < _; omega)) fun y1 hy1 => ?_
   refine gChk (by omega) ?_
   rw [e1]
   refine gBind (newInt_spec hx.1 hx.2) fun y2 hy2 => ?_
   have hx2 : ((c.getD (k - 1) 0).natAbs : Int) < wB 2 := by show _ < (4294967296 : Int) ^ 2; omega
   have l1 := hy1.len bd.1
   have l2 := hy2.len hx2
   refine gBind (addI_spec (x := (y1.1.1, y1.1.2)) (y := (y2.1, y2.2)) hy1 hy2 (by show y1.1.2.length < _; omega) (by show y2.2.length < _; omega)) fun y3 hy3 => ?_
   have e2 : pval (c.drop k) q * q + c.getD (k - 1) 0 = pval (c.drop (k - 1)) q := by rw [pd, Int.mul_comm]; omega
   rw [e2] at hy3
   refine gChk (by omega) (gSome ⟨⟨k - 1, by show (k : Int) - 1 - 1 = _; omega, by omega, hy3, ?_⟩, ?_⟩)
   ·rw [pd, show 4 * (c.length - (k - 1)) + 1 = 4 * (c.length - k) + 1 + 4 by omega]
    exact bd.2
   ·show ((k : Int) - 1 - 1 + 1).toNat < ((k : Int) - 1 + 1).toNat; omega
  ·have : k = 0 := by omega
   subst this
   exact hb
section
variable {p : Nat} [NeZero p]
theorem crit_one : Gets (codes_Critical 2 1 [[1]]) (fun y => y = (1, 0)) := by
 have hX : MOk 2 1 1 [[1]] := ⟨rfl, fun i hi => by rw [show i = 0 by omega]; rfl, fun i hi j hj => by
  rw [show i = 0 by omega, show j = 0 by omega]; decide⟩
 have hR0 : Rr 1 1 (fun _ => 0) (MF 2 [[1]]) := ⟨fun i j _ _ => by omega, fun i _ => by omega, fun i hi => by rw [show i = 0 by omega]; decide, fun i j _ _ _ => by omega, fun i j _ h => by omega⟩
 have uni : ∀ (k : Nat) (h : Nat → Nat) (Y : List (List Int)), RedOf 2 1 1 [[1]] k h Y → k = 1 ∧ Y = [[1]] := fun k h Y hR => by
  obtain ⟨rfl, _, eM⟩ := hR.2.2.1.same hR0 fld2.one fun v => (hR.2.2.2 v).symm
  exact ⟨rfl, hR.2.1.ext hX eM⟩
 refine (show Gets (codes_Critical ((2 : Nat) : Int) ((1 : Nat) : Int) [[1]]) _ from Critical_spec fld2 (by omega) (by omega) hX (by omega) (by omega) (CM.of (by omega) (by omega) (by omega) hX)).mono ?_
 have u1 : Un 1 1 (MF 2 [[1]]) 1 (2 ^ 1 - 1) := ⟨0, fun _ => 1, rfl, by decide +kernel⟩
 rintro ⟨y1, y2⟩ (⟨_, _, k, h, Y, hR, hb⟩ | ⟨k, h, Y, hR, hC⟩)
 ·obtain ⟨rfl, _⟩ := uni k h Y hR
  omega
 ·obtain ⟨rfl, rfl⟩ := uni k h Y hR
  rcases hC with ⟨e2, c, e1, c1, c2, c3⟩ | ⟨_, _, hn⟩
  ·dsimp only at e1 e2
   have h0 : c ≠ 0 := fun e => by
    subst e
    have : (2 ^ 1 - 1 : Nat) = 0 := c2
    omega
   have : c = 1 := by omega
   subst this
   rw [e1, e2]; rfl
  ·exact absurd u1 (hn 1 (Nat.le_refl _))
theorem Critical_bad {P C : Int} {X : List (List Int)} (h : ¬ CM P C X) : Gets (codes_Critical P C X) (fun y => y.2 ≠ 0 ∧ y.1 = 0) := by
 unfold codes_Critical
 exact gBind (CM.bad h) fun e he => gIte (fun q => gSome ⟨he, rfl⟩) fun q => absurd he q
theorem LinearB {P C : Int} {X : List (List Int)} (h : ¬ CM P C X) : Gets (kinds_Linear P C X) (fun y => y.2.2 ≠ 0) := by
 unfold kinds_Linear
 exact gBind (CM.bad h) fun e he => gIte (fun q => gSome he) fun q => absurd he q
theorem Contains64 {l : List Int} (hl : l.length ≤ 1000) : Gets (slices_ContainsFunc_int64_int64 l (fun x0 => rotakeep_CodesCritical_1 x0)) (fun r => r = true ↔ ∃ i, i < l.length ∧ l.getD i 0 ≠ 0) := by
 unfold slices_ContainsFunc_int64_int64 slices_IndexFunc_int64_int64
 refine gBind (R := fun r : Int => 0 ≤ r ↔ ∃ i, i < l.length ∧ l.getD i 0 ≠ 0) (gBind (R := fun z => match z with | .inl _ => ∀ k, k < l.length → l.getD k 0 = 0 | .inr r => 0 ≤ r ∧ ∃ i, i < l.length ∧ l.getD i 0 ≠ 0)
  (gFor l.length (fun k v => v = (k : Int) ∧ ∀ j, j < k → l.getD j 0 = 0) (Nat.zero_le _) ⟨rfl, none_all⟩ ?_) ?_) fun r hr => gSome ?_
 ·rintro k _ hk ⟨rfl, hb⟩
  simp only [toNat_nat]
  refine gIte (fun h1 => gChk (by omega) ?_) fun h1 => gSome fun j hj => hb j (by omega)
  have hk' : k < l.length := by omega
  have : rotakeep_CodesCritical_1 (l.getD k 0) = some (decide (l.getD k 0 ≠ 0)) := rfl
  rw [this]
  simp only [Option.bind_some, decide_eq_true_eq]
  refine gIte (fun q => gSome ⟨by omega, k, hk', q⟩) fun q => gSome ⟨hk', by simp, step_all hb (Classical.not_not.1 q)⟩
 ·rintro (u | rr) hz
  ·exact gSome ⟨fun q => absurd q (by omega), fun ⟨i, hi, hne⟩ => absurd (hz i hi) hne⟩
  ·exact gSome ⟨fun _ => hz.2, fun _ => hz.1⟩
 ·rw [decide_eq_true_eq]; exact hr
theorem ind_of {r n : Nat} {X : List (List Int)} (hp : Fld p) {K : List Nat} (hK : ∀ s, s ∈ K ↔ s < 2 ^ n ∧ ColInd p r n X s ∧ ∀ t, t < 2 ^ n → ColInd p r n X t → cnt n t ≤ cnt n s) (hM : Mat n K) {s : Nat} (hs : s < 2 ^ n) : Ind K s ↔ ColInd p r n X s := by
 constructor
 ·rintro ⟨b, hb, h⟩
  exact ColInd.sub h ((hK b).1 hb).2.1
 ·intro h
  obtain ⟨b, hb⟩ := hM.exists_basis
  obtain ⟨b1, b2, b3⟩ := (hK b).1 hb
  have key : ∀ d t, t < 2 ^ n → ColInd p r n X t → cnt n b ≤ cnt n t + d → ∃ u, u ∈ K ∧ Inc t u := by
   intro d
   induction d with
   | zero => intro t ht hi hc; exact ⟨t, (hK t).2 ⟨ht, hi, fun v hv hvi => Nat.le_trans (b3 v hv hvi) (by omega)⟩, Inc.refl t⟩
   | succ d ih =>
    intro t ht hi hc
    rcases Nat.lt_or_ge (cnt n t) (cnt n b) with q | q
    ·obtain ⟨e, e1, e2, e3⟩ := col_aug hp ht b1 hi b2 q
     have he := bit_lt b1 e1
     obtain ⟨u, u1, u2⟩ := ih _ (or_lt ht (pow_lt he)) e3 (by rw [cnt_add he e2]; omega)
     exact ⟨u, u1, (inc_or_l _ _).trans u2⟩
    ·exact ih t ht hi (by omega)
  exact key _ s hs h (Nat.le_add_left _ _)
theorem ColInd.ker {r k n : Nat} {X Y : List (List Int)} (h : ∀ w, Ker r n (MF p X) w ↔ Ker k n (MF p Y) w) (s : Nat) : ColInd p r n X s ↔ ColInd p k n Y s := by
 unfold ColInd
 exact ⟨fun q v hv => q v ((h v).2 hv), fun q v hv => q v ((h v).1 hv)⟩
variable {k n : Nat} {Y : List (List Int)} {h : Nat → Nat} {B : List Nat}
theorem ColMat.loop (H : ColMat p k n Y h B) (hp : Fld p) (hf : ¬ Flat n B 0) : ∃ j, j < n ∧ ∀ a, cw k (MF p Y) a j = 0 := by
 have hM := H.mat
 unfold Flat at hf
 obtain ⟨j, hj, hr⟩ : ∃ j, j < n ∧ rk n B (0 ||| 2 ^ j) = rk n B 0 := by
  rcases Classical.em (∃ j, j < n ∧ rk n B (0 ||| 2 ^ j) = rk n B 0) with q | q
  ·exact q
  ·exact absurd (fun i hi _ e => q ⟨i, hi, e⟩) hf
 refine ⟨j, hj, fun a => ?_⟩
 have hz := H.zr_flat hp a
 have hb : (zr n (cw k (MF p Y) a)).testBit j = true := by
  cases hb : (zr n (cw k (MF p Y) a)).testBit j with
  | true => rfl
  | false =>
   exfalso
   refine hz j hj hb ?_
   exact hM.rk_stay (inc_zero _) hr
 rw [zr_bit] at hb
 simpa [hj] using hb
theorem ColMat.cover (H : ColMat p k n Y h B) (hp : Fld p) (hf : Flat n B 0) : Un k n (MF p Y) n (2 ^ n - 1) := by
 have hM := H.mat
 have some : ∀ j, j < n → ∃ a, cw k (MF p Y) a j ≠ 0 := fun j hj => by
  rcases Classical.em (∃ a, cw k (MF p Y) a j ≠ 0) with q | q
  ·exact q
  ·exfalso
   have hl : 0 ||| 2 ^ j < 2 ^ n := or_lt (Nat.pow_pos (by omega)) (pow_lt hj)
   have e : NS k n (MF p Y) (0 ||| 2 ^ j) = NS k n (MF p Y) 0 := vI_congr fun a => by
    have : van k n (MF p Y) (0 ||| 2 ^ j) a ↔ van k n (MF p Y) 0 a := by
     rw [van_or hj]
     exact ⟨fun z => z.1, fun z => ⟨z, Classical.not_not.1 fun w => q ⟨a, w⟩⟩⟩
    by_cases c : van k n (MF p Y) 0 a
    ·rw [if_pos c, if_pos (this.2 c)]
    ·rw [if_neg c, if_neg fun z => c (this.1 z)]
   have h1 := H.count hp hl
   have h2 := H.count hp (S := 0) (Nat.pow_pos (by omega))
   rw [h1.1, h2.1] at e
   have h3 := hf j hj (by simp)
   have hp1 : 1 < p := by
    rcases Nat.lt_or_ge 1 p with c | c
    ·exact c
    ·exfalso
     have hp0 := Nat.pos_of_ne_zero (NeZero.ne p)
     have hpe : p = 1 := by omega
     subst hpe
     exact hp.one (Fin.ext (by simp))
   have : k - rk n B (0 ||| 2 ^ j) = k - rk n B 0 := (Nat.pow_right_inj hp1).1 (Int.ofNat.inj e)
   omega
 have key : ∀ t, t ≤ n → ∃ s, Un k n (MF p Y) t s ∧ ∀ i, i < t → s.testBit i = true := by
  intro t
  induction t with
  | zero => exact fun _ => ⟨0, rfl, fun i hi => by omega⟩
  | succ t ih =>
   intro ht
   obtain ⟨s, s1, s2⟩ := ih (by omega)
   obtain ⟨a, ha⟩ := some t (by omega)
   refine ⟨_, ⟨s, a, s1, rfl⟩, fun i hi => ?_⟩
   rw [Nat.testBit_or]
   rcases Classical.em (i = t) with e | e
   ·subst e; rw [sp_bit]; simp [ha]; omega
   ·rw [s2 i (by omega)]; rfl
 obtain ⟨s, s1, s2⟩ := key n (Nat.le_refl _)
 have : s = 2 ^ n - 1 := Nat.eq_of_testBit_eq fun i => by
  rw [full_bit]
  by_cases c : i < n
  ·rw [s2 i c]; simp [c]
  ·rw [bit_ge s1.lt (by omega)]; simp [c]
 rwa [← this]
theorem ColMat.nocover (H : ColMat p k n Y h B) (hp : Fld p) (hf : ¬ Flat n B 0) (t : Nat) : ¬ Un k n (MF p Y) t (2 ^ n - 1) := by
 obtain ⟨j, hj, ha⟩ := H.loop hp hf
 have key : ∀ t s, Un k n (MF p Y) t s → s.testBit j = false := by
  intro t
  induction t with
  | zero => intro s hs; rw [show s = 0 from hs]; simp
  | succ t ih =>
   rintro _ ⟨s, a, h1, rfl⟩
   rw [Nat.testBit_or, ih s h1, sp_bit, ha a]; simp
 intro hu
 have := key t _ hu
 rw [full_bit] at this
 simp [hj] at this
theorem chr_bd {B : List Nat} (hM : Mat n B) (i : Nat) : -17592186044416 ≤ (chr n B).getD i 0 ∧ (chr n B).getD i 0 ≤ 17592186044416 := by
 have hF : Fam n (flats n B) := filter_fam hM.m8 _
 have hsub : (flats n B).Sublist (List.range (2 ^ n)) := List.filter_sublist
 have hlen := hF.len
 unfold chr
 split
 ·rw [List.getD_eq_getElem?_getD, List.getElem?_map]
  cases hq : (List.range (rk n B (2 ^ n - 1) + 1))[i]? with
  | none => simp
  | some j =>
   simp only [Option.map_some, Option.getD_some]
   have b1 := sumN_abs (n := (flats n B).length) (g := fun i => if rk n B (2 ^ n - 1) - rk n B ((flats n B).getD i 0) = j then mob (flats n B) i else 0) (c := 68719476736) fun i hi => by
    have := hF.mob_small hsub hi
    split <;> omega
   have b3 : ((flats n B).length : Int) * 68719476736 ≤ 256 * 68719476736 := Int.mul_le_mul_of_nonneg_right (by omega) (by omega)
   omega
 ·rw [List.getD_eq_getElem?_getD, List.getElem?_replicate]
  split <;> simp
end
theorem rotakeep_CodesCritical_law (P C : Int) (X : List (List Int)) : rotakeep_CodesCritical P C X = some true := by
 refine Gets.eq ?_
 unfold rotakeep_CodesCritical
 refine gBind crit_one ?_
 rintro _ rfl
 refine gIte (fun q => absurd q (by decide)) fun _ => ?_
 by_cases hX : CM P C X
 case neg => exact gBind (Critical_bad hX) fun y hy => gBind (LinearB hX) fun z hz => gIte (fun _ => gSome (by simp [hy.2])) fun q => absurd (.inl hz) q
 obtain ⟨p, n, inst, rfl, rfl, hn8, h7, hp, hr6, hXo⟩ := hX.elim
 generalize hr : X.length = r at hr6 hXo
 have hp1 : 1 < p := by
  rcases hX.1 with e | e | e | e <;> omega
 refine gBind (Critical_spec hp hp1 h7 hXo hr6 hn8 hX) ?_
 rintro ⟨y1, y2⟩ hy
 refine gBind (Linear_spec hp h7 hXo hr6 hn8 hX) ?_
 rintro _ ⟨K, rfl, hF, hK⟩
 have hM : Mat n K := aug_mat hn8 hF hK colInd0 (fun s t a b => ColInd.sub a b) fun I J hI hJ a b c => col_aug hp hI hJ a b c
 dsimp only
 rcases hy with ⟨e2, e1, _⟩ | ⟨k, h, Y, hR, hC⟩
 ·exact gIte (fun _ => gSome (by simpa using e1)) fun q => absurd (.inr e2) q
 have H : ColMat p k n Y h K := ⟨hM, fun s hs => (ind_of hp hK hM hs).trans (ColInd.ker hR.2.2.2 s), hR.2.2.1⟩
 have hcl : (chr n K).length ≤ 1000 := by
  rw [chr_len]
  have := hM.rk_size (2 ^ n - 1)
  have := cnt_le n (2 ^ n - 1)
  omega
 rcases hC with ⟨e2, c, e1, c1, c2, c3⟩ | ⟨e2, e1, hno⟩
 ·dsimp only at e1 e2
  subst e1 e2
  refine gIte (fun q => absurd q (by simp)) fun _ => ?_
  refine gBindE hM.Char_ok (gIte (fun q => absurd rfl q) fun _ => gIte (fun q => absurd q (by decide)) fun _ => ?_)
  have hf : Flat n K 0 := by
   rcases Classical.em (Flat n K 0) with q | q
   ·exact q
   ·exact absurd c2 (H.nocover hp q c)
  have hpw : ∀ t, t ≤ 9 → 0 < p ^ t ∧ p ^ t ≤ 40353607 := fun t ht => ⟨Nat.pow_pos (by omega), Nat.le_trans (Nat.pow_le_pow_left h7 t) (Nat.le_trans (Nat.pow_le_pow_right (by omega) ht) (by decide))⟩
  refine gBind (R := fun z : Unit ⊕ Bool => z = .inl ()) (gFor (c + 1) (fun t (x : Int × Int) => x.2 = (t : Int) ∧ x.1 = ((p ^ t : Nat) : Int)) (Nat.zero_le _) ⟨rfl, by simp⟩ ?_) ?_
  ·rintro t ⟨_, _⟩ ht ⟨rfl, rfl⟩
   dsimp only
   refine gIte (fun h1 => ?_) fun h1 => gSome rfl
   have htc : t ≤ c := by omega
   have w1 := hpw t (by omega)
   have w2 := hpw (t + 1) (by omega)
   refine gBind (value_spec (fun i _ => by have := chr_bd hM i; omega) (by omega) hcl) fun z hz => ?_
   refine gBindE (sign_spec hz) ?_
   have hcr := H.critical hp hf t
   rw [← Un_full] at hcr
   have iff : ((if pval (chr n K) ((p ^ t : Nat) : Int) = 0 then (0 : Int) else if pval (chr n K) ((p ^ t : Nat) : Int) < 0 then -1 else 1) ≠ 0 ↔ (t : Int) = (c : Int)) := by
    have e : (t : Int) = (c : Int) ↔ Un k n (MF p Y) t (2 ^ n - 1) := by
     constructor
     ·intro e; have : t = c := by omega
      subst this; exact c2
     ·intro hu
      rcases Nat.lt_or_ge t c with q | q
      ·exact absurd hu (c3 t q)
      ·omega
    rw [e, ← hcr.2]
    by_cases q : pval (chr n K) ((p ^ t : Nat) : Int) = 0
    ·rw [if_pos q]; exact ⟨fun z => absurd rfl z, fun z => absurd q z⟩
    ·rw [if_neg q]
     refine ⟨fun _ => q, fun _ => ?_⟩
     split <;> omega
   refine gIte (fun q => absurd iff q) fun _ => ?_
   have e : ((p ^ t : Nat) : Int) * (p : Int) = ((p ^ (t + 1) : Nat) : Int) := by rw [Nat.pow_succ, Int.natCast_mul]
   rw [e]
   exact gChk (by omega) (gChk (by omega) (gSome ⟨by omega, by simp, rfl⟩))
  ·rintro _ rfl
   exact gSome rfl
 ·dsimp only at e1 e2
  subst e1 e2
  refine gIte (fun q => absurd q (by simp)) fun _ => ?_
  refine gBindE hM.Char_ok (gIte (fun q => absurd rfl q) fun _ => gIte (fun _ => ?_) fun q => absurd rfl q)
  have hf : ¬ Flat n K 0 := fun q => hno n (Nat.le_refl _) (H.cover hp q)
  refine gBind (Contains64 hcl) fun z hz => gSome ?_
  have : z = false := by
   cases z with
   | false => rfl
   | true =>
    obtain ⟨i, hi, hne⟩ := hz.1 rfl
    exfalso
    apply hne
    unfold chr
    rw [if_neg fun q => hf (hM.flat0.1 q), List.getD_eq_getElem?_getD, List.getElem?_replicate]
    split <;> rfl
  rw [this]; rfl
end Go.SH
