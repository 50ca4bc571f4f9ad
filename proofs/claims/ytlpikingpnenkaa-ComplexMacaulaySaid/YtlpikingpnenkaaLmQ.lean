/-
 The law ComplexMacaulay: what is shelled has numbers h that MACAULAY lets. Conditions: the order is no longer than 2^44.
-/
import Derived.Test.YtlpikingpnenkaaLmP
import Derived.Test.YtlpikingpnenkaaSkComplexMacaulay
set_option linter.unusedSimpArgs false
set_option linter.unusedVariables false
namespace Go.SH
open Go Go.AX
theorem setofM (p : Nat → Prop) : ∀ n, ∃ D, D < 2 ^ n ∧ ∀ x, D.testBit x = true ↔ x < n ∧ p x := by
 intro n
 induction n with
 | zero => exact ⟨0, by decide, fun x => by simp⟩
 | succ n ih =>
  obtain ⟨D, hD, h⟩ := ih
  by_cases q : p n
  ·refine ⟨2 ^ n + D, by rw [Nat.pow_succ]; omega, fun x => ?_⟩
   rcases Nat.lt_trichotomy x n with c | rfl | c
   ·rw [Nat.testBit_two_pow_add_gt c, h]
    exact ⟨fun a => ⟨by omega, a.2⟩, fun a => ⟨c, a.2⟩⟩
   ·rw [Nat.testBit_two_pow_add_eq, Nat.testBit_lt_two_pow hD]
    simp [q]
   ·have : (2 ^ n + D).testBit x = false := Nat.testBit_lt_two_pow (Nat.lt_of_lt_of_le (show 2 ^ n + D < 2 ^ (n + 1) by rw [Nat.pow_succ]; omega) (Nat.pow_le_pow_right (by decide) c))
    rw [this]
    simp; omega
  ·refine ⟨D, by rw [Nat.pow_succ]; omega, fun x => ?_⟩
   rw [h]
   refine ⟨fun a => ⟨by omega, a.2⟩, fun a => ⟨?_, a.2⟩⟩
   rcases Nat.lt_or_ge x n with c | c
   ·exact c
   ·have : x = n := by omega
    subst this; exact absurd a.2 q
theorem len_leM : ∀ {P Q : List Nat}, P.Nodup → (∀ a, a ∈ P → a ∈ Q) → P.length ≤ Q.length := by
 intro P
 induction P with
 | nil => intro Q _ _; exact Nat.zero_le _
 | cons a P ih =>
  intro Q hn h
  have ha := h a (List.mem_cons_self ..)
  have hn' := List.nodup_cons.1 hn
  have := ih (Q := Q.erase a) hn'.2 fun b hb => (List.mem_erase_of_ne (by intro e; subst e; exact hn'.1 hb)).2 (h b (List.mem_cons_of_mem _ hb))
  rw [List.length_erase_of_mem ha] at this
  have : 0 < Q.length := List.length_pos_of_mem ha
  simp only [List.length_cons]
  omega
/-- The elements below m, as a list. -/
def elM (m s : Nat) : List Nat := (List.range m).filter fun x => s.testBit x
theorem elM_len (s : Nat) : ∀ m, (elM m s).length = cnt m s
 | 0 => rfl
 | m + 1 => by
  unfold elM
  rw [List.range_succ, List.filter_append, List.length_append]
  have := elM_len s m
  unfold elM at this
  rw [this]
  show _ = cnt m s + _
  by_cases q : s.testBit m = true <;> simp [q]
theorem mem_elM {m s x : Nat} : x ∈ elM m s ↔ x < m ∧ s.testBit x = true := by simp [elM]
theorem mid_tab : ((List.range 9).all fun m => (List.range 9).all fun d => Nat.ble ((List.range (2 ^ m)).filter fun s => Nat.beq (cnt m s) d).length 70) = true := by kernel_rfl
theorem few {m d : Nat} (h8 : m ≤ 8) (hd : d ≤ 8) {O : List Nat} (hn : O.Nodup) (h : ∀ s, s ∈ O → s < 2 ^ m ∧ cnt m s = d) : O.length ≤ 70 := by
 have h1 := Nat.le_of_ble_eq_true (List.all_eq_true.1 (List.all_eq_true.1 mid_tab m (List.mem_range.2 (by omega))) d (List.mem_range.2 (by omega)))
 refine Nat.le_trans (len_leM hn fun s hs => ?_) h1
 rw [List.mem_filter, List.mem_range]
 exact ⟨(h s hs).1, by rw [(h s hs).2]; exact Nat.beq_refl d⟩
theorem s0_le (R : Nat → List Nat) (k : Nat) : ∀ n, rn n R k ≤ n
 | 0 => Nat.le_refl _
 | n + 1 => by
  have := s0_le R k n
  show rn n R k + (if (R n).length = k then 1 else 0) ≤ n + 1
  split <;> omega
theorem sum_rn (c : Nat → Nat) (R : Nat → List Nat) (k : Nat) : ∀ n, (∀ i, i < n → (R i).length = c i) → sumN n (fun t => if c t = k then 1 else 0) = ((rn n R k : Nat) : Int)
 | 0, _ => rfl
 | n + 1, h => by
  show sumN n _ + _ = ((rn n R k + (if (R n).length = k then 1 else 0) : Nat) : Int)
  rw [sum_rn c R k n fun i hi => h i (by omega), h n (by omega)]
  by_cases q : c n = k <;> simp [q]
theorem h_zeroM (m : Nat) (L : List Nat) : hN m L 0 = fN m L 0 := by
 unfold hN hT
 simp only [sumN]
 have : bin (dimL m L - 0) (0 - 0) = 1 := by cases dimL m L <;> rfl
 rw [this]
 simp [sg]
/-- The numbers h of what is shelled. -/
theorem h_mac {m : Nat} {L O : List Nat} (hv : Shv m L O) (hS : Shell m O) {k : Nat} (h1 : 1 ≤ k) (hk : k + 1 ≤ dimL m L) :
  ∃ a b : Nat, hN m L k = (a : Int) ∧ hN m L (k + 1) = (b : Int) ∧ a < 71 ∧ b ≤ tM k a := by
 have h8 := hv.cx.m8
 have hd := dim_le m L
 have hex : ∀ i, ∃ R, i < O.length → IsRes O i R := fun i => by
  obtain ⟨D, hD, h⟩ := setofM (fun x => (O.getD i 0).testBit x = true ∧ ∃ j, j < i ∧ O.getD j 0 &&& O.getD i 0 = dif (O.getD i 0) (2 ^ x)) m
  refine ⟨D, fun hi x => ?_⟩
  rw [h]
  refine ⟨fun a => a.2, fun a => ⟨?_, a⟩⟩
  rcases Nat.lt_or_ge x m with c | c
  ·exact c
  ·have := Nat.testBit_lt_two_pow (Nat.lt_of_lt_of_le (hv.lt hi).2 (Nat.pow_le_pow_right (by decide) c))
   rw [this] at a; cases a.1
 let R : Nat → Nat := fun i => Classical.choose (hex i)
 have hR : ∀ i, i < O.length → IsRes O i (R i) := fun i hi => Classical.choose_spec (hex i) hi
 have hmem : ∀ i, i < O.length → O.getD i 0 ∈ L := fun i hi => (hv.lt hi).1
 have hsh : Shl (List.range m) O.length (dimL m L) (fun i => elM m (O.getD i 0)) (fun i => elM m (R i)) := by
  refine ⟨fun i hi v hv' => List.mem_range.2 (mem_elM.1 hv').1, fun i hi => List.nodup_range.filter _, fun i hi => ?_, fun i hi v hv' => ?_, fun i hi => List.nodup_range.filter _, fun i hi g hg => ?_⟩
  ·rw [elM_len]; exact hv.pure _ (hmem i hi)
  ·have := mem_elM.1 hv'
   exact mem_elM.2 ⟨this.1, (hR i hi).inc v this.2⟩
  ·obtain ⟨s, hs, hb⟩ := setofM (fun v => 0 < g v) m
   have hin : ∀ j, (Sp g (elM m (O.getD j 0)) ↔ Inc s (O.getD j 0)) := fun j => by
    constructor
    ·intro h x hx
     exact (mem_elM.1 (h x ((hb x).1 hx).2)).2
    ·intro h v hv'
     have hvm := (mem_elM.1 (hg v hv')).1
     exact mem_elM.2 ⟨hvm, h v ((hb v).2 ⟨hvm, hv'⟩)⟩
   have hsi := (hin i).1 hg
   have hRs : (∀ v, v ∈ elM m (R i) → 0 < g v) ↔ Inc (R i) s := by
    constructor
    ·intro h x hx
     have : x ∈ elM m (O.getD i 0) := by
      refine mem_elM.2 ⟨?_, (hR i hi).inc x hx⟩
      rcases Nat.lt_or_ge x m with c | c
      ·exact c
      ·have := Nat.testBit_lt_two_pow (Nat.lt_of_lt_of_le (hv.lt hi).2 (Nat.pow_le_pow_right (by decide) c))
       have h2 := (hR i hi).inc x hx
       rw [this] at h2; cases h2
     have hxm := (mem_elM.1 this).1
     exact (hb x).2 ⟨hxm, h x (mem_elM.2 ⟨hxm, hx⟩)⟩
    ·intro h v hv'
     exact ((hb v).1 (h v (mem_elM.1 hv').2)).2
   rw [hRs]
   constructor
   ·rintro ⟨l, hl, hsl⟩ hr
    exact shell_only (hv.lt hi).2 hS hi hl (hR i hi) hsi hr ((hin l).1 hsl)
   ·intro hn
    refine Classical.byContradiction fun q => hn (shell_first (hR i hi) hsi fun j hj hsj => q ⟨j, hj, (hin j).2 hsj⟩)
 have hval : ∀ j, j ≤ dimL m L → hN m L j = ((rn O.length (fun i => elM m (R i)) j : Nat) : Int) := fun j hj => by
  rw [h_shell h8 hv.cx.lt hv.perm hv.pure hS hR hj]
  exact sum_rn (fun t => cnt m (R t)) _ j _ fun i hi => elM_len _ _
 have hO : O.length ≤ 70 := few h8 (d := dimL m L) (by omega) (hv.perm.nodup_iff.2 hv.cx.toFam.nodup) fun s hs => by
  have := hv.perm.mem_iff.1 hs
  exact ⟨hv.cx.lt _ this, hv.pure _ this⟩
 have hb := s0_le (fun i => elM m (R i)) k O.length
 exact ⟨_, _, hval k (by omega), hval (k + 1) hk, by omega, mac_range (by omega) hsh h1 (by omega) (by omega)⟩
theorem shv12 : Shv 2 [1, 2] [2, 1] := ⟨⟨⟨by omega, by decide, fun i j hij hj => by
 have : j = 1 := by simp at hj; omega
 subst this
 have : i = 0 := by omega
 subst this; decide⟩, by simp, fun s hs t ht h => by
 have h1 : s = 1 ∨ s = 2 := by simpa using hs
 have h2 : t = 1 ∨ t = 2 := by simpa using ht
 rcases h1 with rfl | rfl <;> rcases h2 with rfl | rfl
 ·rfl
 ·have := h 0 (by decide); revert this; decide
 ·have := h 1 (by decide); revert this; decide
 ·rfl⟩, by decide, by decide⟩
theorem shell12 : Shell 2 [2, 1] := fun i hi j hj => by
 have : i = 1 := by simp at hi; omega
 subst this
 have : j = 0 := by omega
 subst this
 exact ⟨0, by omega, by decide, fun x hx => by
  have e : ([2, 1].getD 1 0 &&& [2, 1].getD 0 0 : Nat) = 0 := by decide
  rw [e] at hx; simp at hx⟩
theorem rotakeep_ComplexMacaulay_law (n : Int) (a1 a2 : List Int) (h1 : a1.length ≤ 9223372036854775807) (h2 : a2.length ≤ 17592186044416) : rotakeep_ComplexMacaulay n a1 a2 = some true := by
 refine Gets.eq ?_
 unfold rotakeep_ComplexMacaulay
 refine gBind (Shells_spec 2 [1, 2] [2, 1] (by decide) (by decide)) fun y hy => ?_
 have hy2 : y.2 = 0 ∧ y.1 = true := by
  rcases hy with ⟨_, _, hn⟩ | ⟨q0, m, L, O, e1, e2, e3, hv, hs⟩
  ·exact absurd ⟨2, [1, 2], [2, 1], rfl, rfl, rfl, shv12⟩ hn
  ·have d1 : 2 = m := Int.ofNat.inj e1
   have d2 : [2, 1] = O := cs_inj (L := [2, 1]) e3
   subst d1 d2
   exact ⟨q0, hs.2 shell12⟩
 refine gIte (fun q => absurd q (by simp [hy2])) fun _ => ?_
 refine gBind (Shells_spec n a1 a2 h1 h2) fun y1 hs => ?_
 rcases hs with ⟨hne, hf, hno⟩ | ⟨h0, m, L, O, rfl, rfl, rfl, hv, hS⟩
 ·refine gIte (fun _ => gSome ?_) fun q => absurd (.inl hne) q
  simp [hf]
 by_cases ht : y1.1 = true
 rotate_left
 ·exact gIte (fun _ => gSome (by simp [ht])) fun q => absurd (.inr ht) q
 refine gIte (fun q => absurd q (by simp [h0, ht])) fun _ => ?_
 have hSh := hS.1 ht
 have h8 := hv.cx.m8
 have hd := dim_le m L
 have hz : hN m L 0 = 1 := by rw [h_zeroM, hv.cx.f_zero]; rfl
 have hl := hL_len m L
 refine gBindE (H_ok hv.cx) (gChk (by simp [hl]) (gIte (fun q => absurd q ?_) fun _ => ?_))
 ·rw [hL_get (by omega), hz]; simp
 refine gBind (R := fun z => match z with | .inl _ => True | .inr r => r = true) (gLoop (fun v => ∃ k : Nat, v = (k : Int) ∧ 1 ≤ k ∧ k ≤ 9) (fun v => 100 - v.toNat) ⟨1, rfl, Nat.le_refl _, by omega⟩ ?_) ?_
 ·rintro _ ⟨k, rfl, hk1, hk9⟩
  refine gChk (by omega) (gIte (fun q => ?_) fun q => gSome trivial)
  rw [hl] at q
  have hk : k + 1 ≤ dimL m L := by omega
  obtain ⟨a, b, ea, eb, ha, hab⟩ := h_mac hv hSh hk1 hk
  have ga : (hL m L).getD (k : Int).toNat 0 = (a : Int) := by rw [toNat_nat, hL_get (by omega), ea]
  have gb : (hL m L).getD ((k : Int) + 1).toNat 0 = (b : Int) := by rw [show ((k : Int) + 1).toNat = k + 1 by omega, hL_get (by omega), eb]
  simp only [ga, gb, hl]
  refine gChk (by omega) (gBindE (a := ((tM k a : Nat) : Int)) ?_ ?_)
  ·rw [if_pos (by omega)]; exact lets_mac (by omega) ha
  refine gIte (fun q => absurd q (by omega)) fun _ => gChk (by omega) (gSome ⟨⟨k + 1, by omega, by omega, by omega⟩, by show 100 - ((k : Int) + 1).toNat < 100 - ((k : Int)).toNat; omega⟩)
 ·rintro (u | rr) hz'
  ·exact gSome rfl
  ·subst hz'; exact gSome rfl
end Go.SH
