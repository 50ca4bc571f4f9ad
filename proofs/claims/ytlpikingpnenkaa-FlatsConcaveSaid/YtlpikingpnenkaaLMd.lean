/-
 MACAULAY, GREEN: what lies over a set of monomials. Conditions: up to 70 monomials, degrees up to 7.
-/
import Derived.Test.YtlpikingpnenkaaLMc
set_option linter.unusedSimpArgs false
set_option linter.unusedVariables false
namespace Go.SH
open Go Go.AX
theorem all_range {n : Nat} {p : Nat → Bool} (h : (List.range n).all p = true) {i : Nat} (hi : i < n) : p i = true := List.all_eq_true.1 h i (List.mem_range.2 hi)
theorem tM_one {k s : Nat} (hk : k < 8) (hs : s < 71) : (s = 0 ∨ tM k (s - 1) ≤ tM k s) ∧ (k = 0 ∨ s + tM k (tG k s) ≤ tM k s) ∧ tG k s ≤ s := by
 have := all_range (all_range num0 hk) hs
 simp only [Bool.and_eq_true, Bool.or_eq_true, beq_iff_eq, decide_eq_true_eq] at this
 exact ⟨this.1.1, this.1.2, this.2⟩
theorem tM_mono {k : Nat} (hk : k < 8) : ∀ {s s' : Nat}, s ≤ s' → s' < 71 → tM k s ≤ tM k s' := by
 intro s s' h h'
 induction s' with
 | zero => rw [show s = 0 by omega]; exact Nat.le_refl _
 | succ s' ih =>
  rcases Nat.lt_or_ge s' s with q | q
  ·rw [show s = s' + 1 by omega]; exact Nat.le_refl _
  ·have := ih q (by omega)
   have := (tM_one hk h').1
   simp only [Nat.add_sub_cancel] at this
   omega
theorem tM_N2 {k a b : Nat} (hk : k < 7) (h0 : k ≠ 0) (hs : a + b < 71) (h : a ≤ tM k (tG k b)) : a ≤ tG (k + 1) (a + b) := by
 have := all_range (all_range (all_range num2 hk) (show b < 71 by omega)) (show a < 71 - b by omega)
 simp only [Bool.or_eq_true, beq_iff_eq, decide_eq_true_eq] at this
 omega
theorem tG_1 {s : Nat} (hs : s < 71) : tG 1 s = s - 1 := by
 have := all_range num1 hs
 simp only [Bool.or_eq_true, beq_iff_eq] at this
 rcases this with q | q
 ·subst q; have := (tM_one (k := 1) (s := 0) (by omega) (by omega)).2.2; omega
 ·exact q
section
variable {x : Nat} {W : List Nat}
theorem cn_split (k : Nat) (S : (Nat → Nat) → Prop) : cn (x :: W) (k + 1) S = cn W (k + 1) (fun g => S (upd g x 0)) + cn (x :: W) k (fun g => S (upd g x (g x + 1))) := by
 unfold cn
 simp only [ms]
 rw [su_head, Nat.sub_zero]
 congr 1
 refine su_congr fun a ha => ?_
 rw [show k + 1 - (a + 1) = k - a by omega]
 congr 1
 funext g
 simp only [upd_upd, upd_at]
theorem cn_le {V : List Nat} {k : Nat} {S T : (Nat → Nat) → Prop} (hd : V.Nodup) (h : ∀ g, Mo V k g → S g → T g) : cn V k S ≤ cn V k T := ms_leM hd fun g hg => ind_le (h g hg)
theorem Mo.drop {k : Nat} {g : Nat → Nat} (h : Mo W k g) (hx : x ∉ W) : g x = 0 ∧ upd g x 0 = g ∧ Mo (x :: W) k g := by
 have h0 := h.1 x hx
 have e : upd g x 0 = g := by have := upd_self g x; rw [h0] at this; exact this
 have h1 := Mo.ext (v := x) (k := k) (a := 0) (g := g) (by simpa using h) hx (Nat.zero_le _)
 rw [e] at h1
 exact ⟨h0, e, h1⟩
theorem green (hd : (x :: W).Nodup) (hP : ∀ k, 1 ≤ k → k < 8 → ∀ S T, Ov W k S T → cn W k S < 71 → cn W (k + 1) T ≤ tM k (cn W k S)) :
  ∀ k, 1 ≤ k → k < 8 → ∀ S, Stb x (x :: W) k S → cn (x :: W) k S < 71 → cn W k (fun g => S (upd g x 0)) ≤ tG k (cn (x :: W) k S) := by
 have hx := (List.nodup_cons.1 hd).1
 have hdW := (List.nodup_cons.1 hd).2
 intro k
 induction k with
 | zero => intro h; omega
 | succ k ih =>
  intro _ hk S hS hs
  have hsp := cn_split (x := x) (W := W) k S
  rcases Nat.eq_zero_or_pos k with h0 | h0
  ·subst h0
   show cn W 1 _ ≤ tG 1 (cn (x :: W) 1 S)
   replace hs : cn (x :: W) 1 S < 71 := hs
   replace hsp : cn (x :: W) 1 S = cn W 1 (fun g => S (upd g x 0)) + cn (x :: W) 0 (fun g => S (upd g x (g x + 1))) := hsp
   rw [tG_1 hs]
   rcases Nat.eq_zero_or_pos (cn W 1 fun g => S (upd g x 0)) with z | z
   ·omega
   ·-- x itself is there
    have hB : 1 ≤ cn (x :: W) 0 (fun g => S (upd g x (g x + 1))) := by
     have hex : ∃ g, Mo W 1 g ∧ S (upd g x 0) := Classical.byContradiction fun hno => by
      have : cn W 1 (fun g => S (upd g x 0)) = 0 := by
       unfold cn
       rw [ms_congr hdW (h := fun _ => 0) fun g hg => ind_f fun q => hno ⟨g, hg, q⟩, ms_zero]
      omega
     obtain ⟨g, g1, g2⟩ := hex
     obtain ⟨e0, e1, e2⟩ := g1.drop hx
     rw [e1] at g2
     have hj : ∃ j, j ∈ W ∧ 0 < g j := Classical.byContradiction fun hno => by
      have : dg W g = 0 := by
       have : dg W g = dg W fun _ => 0 := dg_congr fun i hi => by
        rcases Nat.eq_zero_or_pos (g i) with q | q
        ·exact q
        ·exact absurd ⟨i, hi, q⟩ hno
       rw [this]
       have z0 : ∀ V : List Nat, dg V (fun _ => 0) = 0 := fun V => by
        induction V with
        | nil => rfl
        | cons v V ih => simp only [dg]; rw [ih]
       exact z0 W
      have := g1.2
      omega
     obtain ⟨j, j1, j2⟩ := hj
     have hjx : j ≠ x := fun e => hx (e ▸ j1)
     have hg' := hS g e2 g2 j hjx j2
     rw [e0] at hg'
     have hgj : g j = 1 := by have := dg_le (g := g) j1; have := g1.2; omega
     have hM : Mo (x :: W) 0 (fun _ => 0) := ⟨fun _ _ => rfl, by
      have z0 : ∀ V : List Nat, dg V (fun _ => 0) = 0 := fun V => by
       induction V with
       | nil => rfl
       | cons v V ih => simp only [dg]; rw [ih]
      exact z0 _⟩
     have hp : ind (S (upd (fun _ => 0) x (0 + 1))) ≤ cn (x :: W) 0 (fun g => S (upd g x (g x + 1))) := ms_pos (f := fun g => ind (S (upd g x (g x + 1)))) hd hM
     have hz : upd (fun _ => 0) x (0 + 1) = upd (upd g x (0 + 1)) j (g j - 1) := by
      funext i
      unfold upd
      by_cases c1 : i = j
      ·rw [if_pos c1, if_neg (fun e => hjx (c1 ▸ e)), hgj]
      ·rw [if_neg c1]
       by_cases c2 : i = x
       ·rw [if_pos c2, if_pos c2]
       ·rw [if_neg c2, if_neg c2]
        -- nothing else in g
        by_cases c3 : i ∈ W
        ·have a := dg_set (g := g) 0 j1 hdW
         have b := dg_le (g := upd g j 0) c3
         rw [upd_ne g 0 c1] at b
         have := g1.2
         show 0 = g i
         omega
        ·exact (g1.1 i c3).symm
     have : ind (S (upd (fun _ => 0) x (0 + 1))) = 1 := ind_t (by rw [hz]; exact hg')
     rw [this] at hp
     exact hp
    omega
  ·have hB : Stb x (x :: W) k (fun g => S (upd g x (g x + 1))) := by
    intro g hg hSg j hj h0
    have hM : Mo (x :: W) (k + 1) (upd g x (g x + 1)) := by
     refine ⟨fun i hi => ?_, ?_⟩
     ·rw [upd_ne _ _ (by rintro rfl; exact hi List.mem_cons_self)]; exact hg.1 i hi
     ·have := dg_set (g := g) (g x + 1) (List.mem_cons_self (a := x) (l := W)) hd
      have := hg.2
      omega
    have := hS _ hM hSg j hj (by rw [upd_ne _ _ hj]; exact h0)
    rw [upd_at, upd_upd, upd_ne _ _ hj] at this
    have e : upd (upd (upd g x (g x + 1)) j (g j - 1)) x (upd (upd g x (g x + 1)) j (g j - 1) x + 1) = upd (upd g x (g x + 1 + 1)) j (g j - 1) := by
     rw [upd_ne _ _ (Ne.symm hj), upd_at, upd_comm (upd g x (g x + 1)) _ _ hj, upd_upd]
    show S _
    rw [e]; exact this
   have h1 := ih h0 (by omega) _ hB (by omega)
   have hov : Ov W k (fun g => S (upd (upd g x 0) x (upd g x 0 x + 1))) (fun g => S (upd g x 0)) := by
    intro g hg hSg v hv
    obtain ⟨e0, e1, e2⟩ := hg.drop hx
    have hvx : v ≠ x := by rintro rfl; omega
    simp only [e1] at hSg
    have := hS g e2 hSg v hvx hv
    rw [e0] at this
    simp only [upd_upd, upd_at]
    rw [upd_comm g _ _ hvx]; exact this
   have hle : cn W k (fun g => S (upd (upd g x 0) x (upd g x 0 x + 1))) < 71 := by
    have := (tM_one (k := k) (s := cn (x :: W) k fun g => S (upd g x (g x + 1))) (by omega) (by omega)).2.2
    omega
   have h2 := hP k h0 (by omega) _ _ hov hle
   have h3 := tM_mono (k := k) (by omega) h1 (by have := (tM_one (k := k) (s := cn (x :: W) k fun g => S (upd g x (g x + 1))) (by omega) (by omega)).2.2; omega)
   rw [hsp]
   exact tM_N2 (by omega) (by omega) (by omega) (Nat.le_trans h2 h3)
end
/-- MACAULAY. -/
theorem macaulay : ∀ (V : List Nat), V.Nodup → ∀ k, 1 ≤ k → k < 8 → ∀ S T, Ov V k S T → cn V k S < 71 → cn V (k + 1) T ≤ tM k (cn V k S)
 | [], _, k, _, _, S, T, _, _ => by
  have : cn [] (k + 1) T = 0 := rfl
  omega
 | x :: W, hd, k, h1, h8, S, T, ho, hs => by
  have hx := (List.nodup_cons.1 hd).1
  have hdW := (List.nodup_cons.1 hd).2
  obtain ⟨S', T', a1, a2, a3, a4⟩ := press hd (ms (x :: W) k fun _ => k) S T (by omega) ho
  rw [← a1, ← a2]
  rw [← a1] at hs
  have hP := macaulay W hdW
  have hg := green hd hP k h1 h8 S' a4 hs
  have hov : Ov W k (fun g => S' (upd g x 0)) (fun g => T' (upd g x 0)) := by
   intro g hg hT v hv
   obtain ⟨e0, e1, e2⟩ := hg.drop hx
   have hvx : v ≠ x := by rintro rfl; omega
   simp only [e1] at hT
   have := a3 g e2 hT v hv
   have e : upd (upd g v (g v - 1)) x 0 = upd g v (g v - 1) := by
    rw [upd_comm g _ _ hvx, e1]
   show S' _
   rw [e]; exact this
  have hgle := (tM_one h8 hs).2.2
  have h2 := hP k h1 h8 _ _ hov (by omega)
  have h3 := tM_mono h8 hg (by omega)
  have h4 := (tM_one h8 hs).2.1
  rw [cn_split]
  have h5 : cn (x :: W) k (fun g => T' (upd g x (g x + 1))) ≤ cn (x :: W) k S' := cn_le hd fun g hg hT => by
   have hM : Mo (x :: W) (k + 1) (upd g x (g x + 1)) := by
    refine ⟨fun i hi => ?_, ?_⟩
    ·rw [upd_ne _ _ (by rintro rfl; exact hi List.mem_cons_self)]; exact hg.1 i hi
    ·have := dg_set (g := g) (g x + 1) (List.mem_cons_self (a := x) (l := W)) hd
     have := hg.2
     omega
   have := a3 _ hM hT x (by rw [upd_at]; omega)
   rw [upd_at, upd_upd, Nat.add_sub_cancel, upd_self] at this
   exact this
  omega
end Go.SH
