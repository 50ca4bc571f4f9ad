/-
 MACAULAY's numbers as the code computes them. Conditions: numbers up to 70, degrees up to 7.
-/
import Derived.Test.YtlpikingpnenkaaLmK
set_option linter.unusedSimpArgs false
set_option linter.unusedVariables false
namespace Go.SH
open Go Go.AX
theorem chs_tab : ((List.range 72).all fun a => (List.range 10).all fun v => Nat.ble (chs a v) 1099511627776) = true := by kernel_rfl
theorem chs_up : ((List.range 71).all fun a => (List.range 10).all fun v => Nat.ble (chs a v) (chs (a + 1) v)) = true := by kernel_rfl
theorem chs_end : ((List.range 8).all fun v => Nat.ble 71 (chs 71 (v + 1)) && Nat.ble (chs (v + 1) (v + 1)) 1 && Nat.ble 1 (chs (v + 1) (v + 1))) = true := by kernel_rfl
theorem tM_tab : ((List.range 8).all fun k => (List.range 71).all fun s => Nat.ble (tM k s) 1000000) = true := by kernel_rfl
theorem chs_le {a v : Nat} (ha : a < 72) (hv : v < 10) : chs a v ≤ 1099511627776 := by
 have := List.all_eq_true.1 (List.all_eq_true.1 chs_tab a (List.mem_range.2 ha)) v (List.mem_range.2 hv)
 exact Nat.le_of_ble_eq_true this
theorem chs_step {a v : Nat} (ha : a < 71) (hv : v < 10) : chs a v ≤ chs (a + 1) v := by
 have := List.all_eq_true.1 (List.all_eq_true.1 chs_up a (List.mem_range.2 ha)) v (List.mem_range.2 hv)
 exact Nat.le_of_ble_eq_true this
theorem chs_mono {v : Nat} (hv : v < 10) {a b : Nat} (hab : a ≤ b) (hb : b < 72) : chs a v ≤ chs b v := by
 induction b with
 | zero => rw [show a = 0 by omega]; exact Nat.le_refl _
 | succ b ih =>
  rcases Nat.lt_or_ge a (b + 1) with c | c
  ·exact Nat.le_trans (ih (by omega) (by omega)) (chs_step (by omega) hv)
  ·rw [show a = b + 1 by omega]; exact Nat.le_refl _
theorem chs_over {a k : Nat} (h : a < k) : chs a k = 0 := by
 induction k with
 | zero => omega
 | succ k ih =>
  show chs a k * (a - k) / (k + 1) = 0
  rw [show a - k = 0 by omega, Nat.mul_zero, Nat.zero_div]
theorem over_chs {a k : Nat} (ha : a < 72) (hk : k < 10) : rotakeep_over (a : Int) (k : Int) = some ((chs a k : Nat) : Int) := by
 refine Gets.eq ?_
 unfold rotakeep_over
 refine gIte (fun q => gSome ?_) fun q => ?_
 ·rw [chs_over (by omega)]; rfl
 have hka : k ≤ a := by omega
 refine gBind (R := fun o => o = ((chs a k : Nat) : Int)) (gFor k (fun j (x : Int × Int) => x.2 = (j : Int) ∧ x.1 = ((chs a j : Nat) : Int)) (Nat.zero_le _) ⟨rfl, rfl⟩ ?_) ?_
 ·rintro j ⟨_, _⟩ hj ⟨rfl, rfl⟩
  refine gIte (fun q1 => ?_) fun q1 => gSome (by rw [show j = k by omega])
  have e1 : (a : Int) - (j : Int) = ((a - j : Nat) : Int) := by omega
  have e2 : ((chs a j : Nat) : Int) * ((a - j : Nat) : Int) = ((chs a j * (a - j) : Nat) : Int) := by push_cast; rfl
  have e3 : Int.tdiv ((chs a j * (a - j) : Nat) : Int) ((j : Int) + 1) = ((chs a (j + 1) : Nat) : Int) := rfl
  have b1 := chs_le (v := j) ha (by omega)
  have b2 : chs a j * (a - j) ≤ 1099511627776 * 72 := Nat.mul_le_mul b1 (by omega)
  have b3 := chs_le (v := j + 1) ha (by omega)
  simp only [e1, e2, e3]
  exact gChk (by refine ⟨by omega, by omega, by omega, by omega⟩) (gSome ⟨by omega, rfl, rfl⟩)
 ·rintro _ rfl
  exact gSome rfl
theorem tp_le (k s : Nat) : ∀ n, tp k s n ≤ n
 | 0 => Nat.le_refl _
 | n + 1 => by
  unfold tp
  split
  ·exact Nat.le_refl _
  ·exact Nat.le_succ_of_le (tp_le k s n)
theorem tp_in {k s : Nat} (h : 0 < k) : ∀ n, chs (tp k s n) k ≤ s
 | 0 => by rw [show tp k s 0 = 0 from rfl, chs_over h]; exact Nat.zero_le _
 | n + 1 => by
  unfold tp
  split
  ·assumption
  ·exact tp_in h n
theorem tp_out {k s : Nat} : ∀ n a, tp k s n < a → a ≤ n → s < chs a k
 | 0, a, h1, h2 => by omega
 | n + 1, a, h1, h2 => by
  unfold tp at h1
  split at h1
  ·omega
  ·rcases Nat.lt_or_ge n a with c | c
   ·rw [show a = n + 1 by omega]; omega
   ·exact tp_out n a h1 c
theorem tp_next {k s : Nat} (h : 0 < k) (h8 : k < 9) (hs : s < 71) : s < chs (tp k s 70 + 1) k := by
 have h1 := tp_le k s 70
 rcases Nat.lt_or_ge (tp k s 70) 70 with c | c
 ·exact tp_out 70 _ (Nat.lt_succ_self _) c
 ·rw [show tp k s 70 = 70 by omega]
  have := List.all_eq_true.1 chs_end (k - 1) (List.mem_range.2 (by omega))
  simp only [Bool.and_eq_true] at this
  have h2 := Nat.le_of_ble_eq_true this.1.1
  rw [show k - 1 + 1 = k by omega] at h2
  show s < chs 71 k
  omega
theorem tp_ge {k s : Nat} (h : 0 < k) (h8 : k < 9) (hs : 0 < s) : k ≤ tp k s 70 := by
 rcases Nat.lt_or_ge (tp k s 70) k with c | c
 ·have h1 := tp_out 70 k c (by omega)
  have := List.all_eq_true.1 chs_end (k - 1) (List.mem_range.2 (by omega))
  simp only [Bool.and_eq_true] at this
  have h2 := Nat.le_of_ble_eq_true this.1.2
  rw [show k - 1 + 1 = k by omega] at h2
  omega
 ·exact c
theorem lets_mac {K S : Nat} (hK : K < 8) (hS : S < 71) : rotakeep_lets (S : Int) (K : Int) = some ((tM K S : Nat) : Int) := by
 have eM : mac K S = tM K S := by
  have := List.all_eq_true.1 (List.all_eq_true.1 mac_tab K (List.mem_range.2 hK)) S (List.mem_range.2 hS)
  simpa using this
 have bM : tM K S ≤ 1000000 := by
  have := List.all_eq_true.1 (List.all_eq_true.1 tM_tab K (List.mem_range.2 hK)) S (List.mem_range.2 hS)
  exact Nat.le_of_ble_eq_true this
 rw [← eM] at bM ⊢
 refine Gets.eq ?_
 unfold rotakeep_lets
 refine gBind (R := fun o => o = ((mac K S : Nat) : Int)) (gLoop (fun x : Int × Int × Int => ∃ s k u : Nat, x = ((s : Int), (k : Int), (u : Int)) ∧ s < 71 ∧ k < 8 ∧ u + mac k s = mac K S) (fun x => x.2.1.toNat) ⟨S, K, 0, rfl, hS, hK, by omega⟩ ?_) ?_
 ·rintro _ ⟨s, k, u, rfl, hs, hk, hu⟩
  simp only
  refine gIte (fun q => ?_) fun q => gSome ?_
  rotate_left
  ·have : mac k s = 0 := by
    cases k with
    | zero => rfl
    | succ k => unfold mac; rw [if_pos (by omega)]
   show ((u : Nat) : Int) = ((mac K S : Nat) : Int)
   omega
  obtain ⟨k, rfl⟩ : ∃ j, k = j + 1 := ⟨k - 1, by omega⟩
  have hs0 : 0 < s := by omega
  have t1 := tp_le (k + 1) s 70
  have t2 := tp_in (k := k + 1) (s := s) (by omega) 70
  have t3 := tp_next (k := k + 1) (s := s) (by omega) (by omega) hs
  have t4 := tp_ge (k := k + 1) (s := s) (by omega) (by omega) hs0
  have hu' : u + (chs (tp (k + 1) s 70 + 1) (k + 2) + mac k (s - chs (tp (k + 1) s 70) (k + 1))) = mac K S := by
   rw [← hu]
   show _ = u + mac (k + 1) s
   conv => rhs; unfold mac
   rw [if_neg (by omega)]
  generalize tp (k + 1) s 70 = t at t1 t2 t3 t4 hu'
  refine gBind (R := fun o => o = (t : Int)) (gLoop (fun n : Int => ∃ a : Nat, n = (a : Int) ∧ k + 1 ≤ a ∧ a ≤ t) (fun n => t - n.toNat) ⟨k + 1, rfl, Nat.le_refl _, t4⟩ ?_) ?_
  ·rintro _ ⟨a, rfl, ha1, ha2⟩
   refine gChk (by omega) (gBindE (show rotakeep_over ((a : Int) + 1) ((k + 1 : Nat) : Int) = _ from over_chs (a := a + 1) (k := k + 1) (by omega) (by omega)) ?_)
   refine gIte (fun q1 => gChk (by omega) (gSome ?_)) fun q1 => gSome ?_
   ·have : a ≠ t := fun e => by subst e; omega
    exact ⟨⟨a + 1, by omega, by omega, by omega⟩, by show t - ((a : Int) + 1).toNat < t - ((a : Int)).toNat; omega⟩
   ·show (a : Int) = (t : Int)
    rcases Nat.lt_or_ge a t with c | c
    ·have := chs_mono (v := k + 1) (a := a + 1) (b := t) (by omega) c (by omega)
     omega
    ·omega
  ·rintro _ rfl
   have b2 := chs_le (a := t + 1) (v := k + 2) (by omega) (by omega)
   refine gBindE (over_chs (a := t) (k := k + 1) (by omega) (by omega)) (gChk (by omega) (gChk (by omega) ?_))
   refine gBindE (show rotakeep_over ((t : Int) + 1) (((k + 1 : Nat) : Int) + 1) = _ from over_chs (a := t + 1) (k := k + 2) (by omega) (by omega)) ?_
   refine gChk (by omega) (gChk (by omega) (gSome ⟨⟨s - chs t (k + 1), k, u + chs (t + 1) (k + 2), ?_, by omega, by omega, by omega⟩, ?_⟩))
   ·refine Prod.ext ?_ (Prod.ext ?_ ?_) <;> simp only <;> omega
   ·simp only; omega
 ·rintro _ rfl
  exact gSome rfl
end Go.SH
