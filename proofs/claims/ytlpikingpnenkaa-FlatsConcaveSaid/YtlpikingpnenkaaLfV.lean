/-
 Sets without broken circuits are a complex that the bases without broken circuits shell (BJOERNER). Conditions: none.
-/
import Derived.Test.YtlpikingpnenkaaLfN
set_option linter.unusedSimpArgs false
set_option linter.unusedVariables false
namespace Go.SH
open Go Go.AX
section
variable {m : Nat} {B : List Nat} (h : Mat m B)
include h
/-- Of a circuit but for its least element, within a basis: another element gives way to the least one. -/
theorem Mat.circ_swap {b C f : Nat} (hb : b ∈ B) (hC : C < 2 ^ m) (hc : Circ m B C) (hin : Inc (dif C (2 ^ lo1 C)) b) (hf : (dif C (2 ^ lo1 C)).testBit f = true) : b.testBit (lo1 C) = false ∧ lo1 C < f ∧ dif b (2 ^ f) ||| 2 ^ lo1 C ∈ B := by
 have cl := h.circ_low hC hc
 have lb := h.lt b hb
 have hem := bit_lt hC cl.bit
 have hfC : C.testBit f = true ∧ lo1 C ≠ f := by
  rw [testBit_dif, testBit_pow, Bool.and_eq_true, Bool.not_eq_true', decide_eq_false_iff_not] at hf
  exact hf
 have hfb := hin f hf
 obtain ⟨_, rb, rb2⟩ := (h.in_iff b).1 hb
 have hn : b.testBit (lo1 C) = false := by
  cases q : b.testBit (lo1 C) with
  | false => rfl
  | true =>
   have hCb : Inc C b := fun i hi => by
    by_cases e : lo1 C = i
    ·subst e; exact q
    ·exact hin i (by rw [testBit_dif, testBit_pow, hi]; simp [e])
   have := (h.ind_iff hC).1 ⟨b, hb, hCb⟩
   have := hc.1; omega
 have hlt : lo1 C < f := by
  rcases Nat.lt_trichotomy (lo1 C) f with q | q | q
  ·exact q
  ·exact absurd q hfC.2
  ·have := cl.least _ q; rw [hfC.1] at this; cases this
 refine ⟨hn, hlt, ?_⟩
 have hfm := bit_lt hC hfC.1
 have key : rk m B (dif b (2 ^ f) ||| 2 ^ lo1 C) ≠ rk m B (dif b (2 ^ f)) := by
  intro e
  have e1 : rk m B (dif C (2 ^ f) ||| 2 ^ f) = rk m B (dif C (2 ^ f)) := by
   rw [dif_or hfC.1]
   have c1 := hc.1
   have c2 := hc.2 _ hfm hfC.1
   have c3 := cnt_dif hC hfC.1
   omega
  have hi : Inc (dif C (2 ^ f)) (dif b (2 ^ f) ||| 2 ^ lo1 C) := fun i hi => by
   rw [testBit_dif, testBit_pow, Bool.and_eq_true, Bool.not_eq_true', decide_eq_false_iff_not] at hi
   rw [Nat.testBit_or, testBit_dif, testBit_pow, testBit_pow]
   by_cases e : lo1 C = i
   ·simp [e]
   ·have := hin i (by rw [testBit_dif, testBit_pow, hi.1]; simp [e])
    rw [this]; simp [hi.2]
  have e2 := h.rk_stay hi e1
  have hb2 : Inc b (dif b (2 ^ f) ||| 2 ^ lo1 C ||| 2 ^ f) := fun i hi => by
   rw [Nat.testBit_or, Nat.testBit_or, testBit_dif, testBit_pow, testBit_pow, hi]
   by_cases e : f = i <;> simp [e]
  have e3 := h.rk_mono hb2
  have e4 := h.rk_size (dif b (2 ^ f))
  have e5 := cnt_dif lb hfb
  omega
 obtain ⟨g, g1, g2, g3⟩ := h.fund hb (inc_dif b (2 ^ f)) hem hn key
 have : f = g := by
  rw [testBit_dif, g1, testBit_pow] at g2
  simpa using g2
 subst this
 exact g3
/-- The first basis over a set without broken circuits has none. -/
theorem Mat.nb_first {O : List Nat} (ho : LexO B O) {A t : Nat} (ht : t < O.length) (hA : NB m B A) (hin : Inc A (O.getD t 0)) (hno : ∀ j, j < t → ¬ Inc A (O.getD j 0)) : NB m B (O.getD t 0) := by
 intro C hC hc hsub
 have hb : O.getD t 0 ∈ B := ho.perm.mem_iff.1 (mem_getD.2 ⟨t, ht, rfl⟩)
 have hex : ∃ f, (dif C (2 ^ lo1 C)).testBit f = true ∧ A.testBit f = false := Classical.byContradiction fun q => hA C hC hc fun i hi => by
  cases w : A.testBit i with
  | true => rfl
  | false => exact absurd ⟨i, hi, w⟩ q
 obtain ⟨f, f1, f2⟩ := hex
 obtain ⟨k1, k2, k3⟩ := h.circ_swap hb hC hc hsub f1
 have hem := bit_lt hC (h.circ_low hC hc).bit
 have h8 := h.m8
 obtain ⟨j, j1, j2⟩ := ho.idx ht k3 (lx_swap (h.lt256 hb) (by omega) (hsub f f1) k1 k2)
 refine hno j j1 ?_
 rw [j2]
 intro i hi
 have := hin i hi
 rw [Nat.testBit_or, testBit_dif, testBit_pow, testBit_pow, this]
 have : ¬ f = i := fun e => by subst e; rw [f2] at hi; cases hi
 simp [this]
omit h in
theorem LexO.filter {O : List Nat} (ho : LexO B O) (p : Nat → Bool) : LexO (B.filter p) (O.filter p) := ⟨ho.perm.filter p, ho.ord.filter p⟩
theorem Mat.first_over {O : List Nat} (ho : LexO B O) {A n : Nat} (hn : n < O.length) (hA : NB m B A) (hin : Inc A (O.getD n 0)) : ∃ t, t ≤ n ∧ Inc A (O.getD t 0) ∧ NB m B (O.getD t 0) := by
 obtain ⟨t, t1, t2, t3⟩ := least_of (P := fun t => Inc A (O.getD t 0)) n hin
 exact ⟨t, t1, t2, h.nb_first ho (by omega) hA t2 t3⟩
theorem Mat.nb_shell {O : List Nat} (ho : LexO B O) : Shell m (O.filter fun s => decide (NB m B s)) := by
 intro i hi j hj
 have ho' := ho.filter fun s => decide (NB m B s)
 have hf := mem_getD.2 ⟨i, hi, rfl⟩
 have hg := mem_getD.2 ⟨j, Nat.lt_trans hj hi, rfl⟩
 have hk := ho'.lt hj hi
 have hidx := fun g hg hk => ho'.idx hi (g := g) hg hk
 generalize (O.filter fun s => decide (NB m B s)).getD i 0 = f at *
 generalize (O.filter fun s => decide (NB m B s)).getD j 0 = g at *
 obtain ⟨f1, f2⟩ := List.mem_filter.1 hf
 obtain ⟨g1, g2⟩ := List.mem_filter.1 hg
 have f2 := of_decide_eq_true f2
 obtain ⟨i0, i1, rfl⟩ := mem_getD.1 f1
 obtain ⟨j0, j1, j2⟩ := ho.idx i1 (ho.perm.mem_iff.1 g1) hk
 obtain ⟨k0, k1, k2, k3⟩ := h.lex_shell ho i0 i1 j0 j1
 rw [j2] at k3
 have hA := h.NB_mono (inc_and_l (O.getD i0 0) (O.getD k0 0)) f2
 obtain ⟨t, t1, t2, t3⟩ := h.first_over ho (n := k0) (by omega) hA (inc_and_r _ _)
 have ht : O.getD t 0 ∈ B := ho.perm.mem_iff.1 (mem_getD.2 ⟨t, by omega, rfl⟩)
 have hkt := ho.lt (show t < i0 by omega) i1
 obtain ⟨k, q1, q2⟩ := hidx (O.getD t 0) (List.mem_filter.2 ⟨ht, decide_eq_true t3⟩) hkt
 have lf := h.lt _ (ho.perm.mem_iff.1 f1)
 have hAf : Inc (O.getD i0 0 &&& O.getD k0 0) (O.getD i0 0 &&& O.getD t 0) := fun x hx => by
  rw [Nat.testBit_and, t2 x hx, inc_and_l _ _ x hx]; rfl
 refine ⟨k, q1, ?_, ?_⟩
 ·rw [q2]
  have c1 := cnt_le_of_inc (m := m) hAf
  have c2 := cnt_le_of_inc (m := m) (inc_and_l (O.getD i0 0) (O.getD t 0))
  rcases Nat.lt_or_ge (cnt m (O.getD i0 0 &&& O.getD t 0)) (cnt m (O.getD i0 0)) with q | q
  ·omega
  ·have e := inc_eq_of_cnt (inc_and_l (O.getD i0 0) (O.getD t 0)) lf q
   have hft : Inc (O.getD i0 0) (O.getD t 0) := fun x hx => by rw [← e] at hx; exact inc_and_r _ _ x hx
   have e2 := inc_eq_of_cnt hft (h.lt _ ht) (by rw [h.eqc _ ht _ (ho.perm.mem_iff.1 f1)]; exact Nat.le_refl _)
   rw [e2] at hkt; omega
 ·rw [q2]
  intro x hx
  exact t2 x (by rw [Nat.testBit_and, inc_and_l _ _ x hx, k3 x hx]; rfl)
theorem Mat.nb_zero (h00 : Flat m B 0) : NB m B 0 := fun C c1 c2 c3 => by
 have cl := h.circ_low c1 c2
 have hm := bit_lt c1 cl.bit
 have e0 : dif C (2 ^ lo1 C) = 0 := Inc.antisymm c3 (inc_zero _)
 have e2 := c2.1
 have e3 := cnt_dif c1 cl.bit
 rw [e0, cnt_zero] at e3
 have e4 : C = 2 ^ lo1 C := by
  have := dif_or cl.bit
  rw [e0, Nat.zero_or] at this
  exact this.symm
 have hz := h00 _ hm (by simp)
 rw [Nat.zero_or, h.rk_zero, ← e4] at hz
 omega
theorem Mat.nb_face {O : List Nat} (ho : LexO B O) {s : Nat} (hs : s < 2 ^ m) : Face (B.filter fun s => decide (NB m B s)) s ↔ NB m B s := by
 constructor
 ·rintro ⟨f, f1, f2⟩
  exact h.NB_mono f2 (of_decide_eq_true (List.mem_filter.1 f1).2)
 ·intro hb
  obtain ⟨b, b1, b2⟩ := (h.ind_iff hs).2 (h.NB_ind hs hb)
  obtain ⟨n, n1, rfl⟩ := mem_getD.1 (ho.perm.mem_iff.2 b1)
  obtain ⟨t, t1, t2, t3⟩ := h.first_over ho n1 hb b2
  exact ⟨O.getD t 0, List.mem_filter.2 ⟨ho.perm.mem_iff.1 (mem_getD.2 ⟨t, by omega, rfl⟩), decide_eq_true t3⟩, t2⟩
omit h in
theorem dim_pure {L : List Nat} {r : Nat} (hne : L ≠ []) (hc : ∀ s, s ∈ L → cnt m s = r) : dimL m L = r := by
 obtain ⟨b, hb⟩ : ∃ b, b ∈ L := by
  cases L with
  | nil => exact absurd rfl hne
  | cons b l => exact ⟨b, List.mem_cons_self⟩
 refine Nat.le_antisymm ?_ ?_
 ·exact (foldl_max_le (f := cnt m)).2 ⟨by omega, fun f hf => by rw [hc f hf]; exact Nat.le_refl _⟩
 ·rw [← hc b hb]; exact cnt_le_dim hb
theorem Mat.cnt_b {s : Nat} (hs : s ∈ B) : cnt m s = rk m B (2 ^ m - 1) := by
 obtain ⟨_, h2, h3⟩ := (h.in_iff s).1 hs
 omega
theorem Mat.nb_shv {O : List Nat} (ho : LexO B O) (h00 : Flat m B 0) : Shv m (B.filter fun s => decide (NB m B s)) (O.filter fun s => decide (NB m B s)) ∧ dimL m (B.filter fun s => decide (NB m B s)) = rk m B (2 ^ m - 1) := by
  have hne : (B.filter fun s => decide (NB m B s)) ≠ [] := by
    obtain ⟨f, f1, _⟩ := (h.nb_face ho (Nat.pow_pos (by omega))).2 (h.nb_zero h00)
    intro e; rw [e] at f1; cases f1
  have hd := dim_pure (m := m) hne fun s hs => h.cnt_b (List.mem_filter.1 hs).1
  have hr : (B.filter fun s => decide (NB m B s)).Pairwise (· < ·) := List.Pairwise.filter _ (List.pairwise_iff_getElem.2 fun i j hi hj hij => by
    have := h.rise i j hij hj
    rw [List.getD_eq_getElem?_getD, List.getD_eq_getElem?_getD, List.getElem?_eq_getElem hi, List.getElem?_eq_getElem hj] at this
    exact this)
  refine ⟨⟨⟨⟨h.m8, fun s hs => h.lt s (List.mem_filter.1 hs).1, fun i j hij hj => ?_⟩, hne, fun s hs t ht hst => ?_⟩, ho.perm.filter _, fun s hs => ?_⟩, hd⟩
  · have := List.pairwise_iff_getElem.1 hr i j (by omega) hj hij
    rw [List.getD_eq_getElem?_getD, List.getD_eq_getElem?_getD, List.getElem?_eq_getElem (by omega), List.getElem?_eq_getElem hj]
    exact this
  · exact h.cx.anti s (List.mem_filter.1 hs).1 t (List.mem_filter.1 ht).1 hst
  · rw [hd]; exact h.cnt_b (List.mem_filter.1 hs).1
end
/-- Numbers of faces out of the numbers h. -/
theorem bin_inv2 : ∀ d l i : Fin 9, l.val ≤ i.val → i.val ≤ d.val → sumN (i.val + 1) (fun j => if l.val ≤ j then sg (j - l.val) * ((bin (d.val - l.val) (j - l.val) : Nat) * (bin (d.val - j) (i.val - j) : Nat)) else 0) = if l.val = i.val then 1 else 0 := of_decide_eq_true (by kernel_rfl)
theorem sumN_cut {n k : Nat} (hk : k ≤ n) (g : Nat → Int) : sumN n (fun i => if i < k then g i else 0) = sumN k g := by
 induction n with
 | zero => rw [show k = 0 by omega]; rfl
 | succ n ih =>
  rcases Nat.lt_or_ge n k with q | q
  ·rw [show k = n + 1 by omega]; exact sumN_congr fun i hi => if_pos hi
  ·rw [← ih (by omega)]
   simp only [sumN]
   rw [if_neg (by omega)]; omega
theorem f_of_h {m : Nat} (h8 : m ≤ 8) (L : List Nat) {i : Nat} (hi : i ≤ dimL m L) : ((fN m L i : Nat) : Int) = sumN (i + 1) (fun j => hN m L j * (bin (dimL m L - j) (i - j) : Nat)) := by
 have hd := dim_le m L
 have e1 : ∀ j, j < i + 1 → hN m L j * (bin (dimL m L - j) (i - j) : Nat) = sumN (i + 1) (fun l => if l ≤ j then hT m L j l * (bin (dimL m L - j) (i - j) : Nat) else 0) := fun j hj => by
  have : (fun l => if l ≤ j then hT m L j l * (bin (dimL m L - j) (i - j) : Nat) else (0 : Int)) = fun l => if l < j + 1 then hT m L j l * (bin (dimL m L - j) (i - j) : Nat) else 0 := by
   funext l
   by_cases q : l ≤ j
   ·rw [if_pos q, if_pos (by omega)]
   ·rw [if_neg q, if_neg (by omega)]
  rw [this, sumN_cut (by omega)]
  unfold hN
  rw [Int.mul_comm, ← sumN_mul]
  exact sumN_congr fun l _ => Int.mul_comm _ _
 rw [sumN_congr e1, sumN_swap]
 have e2 : ∀ l, l < i + 1 → sumN (i + 1) (fun j => if l ≤ j then hT m L j l * (bin (dimL m L - j) (i - j) : Nat) else 0) = if l = i then ((fN m L i : Nat) : Int) else 0 := fun l hl => by
  have e3 : ∀ j, j < i + 1 → (if l ≤ j then hT m L j l * (bin (dimL m L - j) (i - j) : Nat) else (0 : Int)) = ((fN m L l : Nat) : Int) * (if l ≤ j then sg (j - l) * ((bin (dimL m L - l) (j - l) : Nat) * (bin (dimL m L - j) (i - j) : Nat)) else 0) := fun j _ => by
   by_cases q : l ≤ j
   ·rw [if_pos q, if_pos q]
    unfold hT
    simp only [Int.mul_assoc, Int.mul_left_comm]
   ·rw [if_neg q, if_neg q, Int.mul_zero]
  rw [sumN_congr e3, sumN_mul, bin_inv2 ⟨dimL m L, by omega⟩ ⟨l, by omega⟩ ⟨i, by omega⟩ (by show l ≤ i; omega) hi]
  by_cases q : l = i
  ·subst q; rw [if_pos rfl, if_pos rfl, Int.mul_one]
  ·rw [if_neg (show ¬ (l = i) from q), if_neg q, Int.mul_zero]
 rw [sumN_congr e2, sumN_single _ _ _ (by omega)]
theorem sumN_s0 (f : Nat → Nat) : ∀ n, sumN n (fun i => ((f i : Nat) : Int)) = ((s0 f n : Nat) : Int)
 | 0 => rfl
 | n + 1 => by simp only [sumN, s0]; rw [sumN_s0 f n]; omega
theorem one_tab : ((List.range 9).all fun m => Nat.beq ((List.range (2 ^ m)).filter fun s => Nat.beq (cnt m s) 1).length m) = true := by kernel_rfl
theorem f_one {m : Nat} (h8 : m ≤ 8) (L : List Nat) : fN m L 1 ≤ m := by
 have h1 := Nat.eq_of_beq_eq_true (List.all_eq_true.1 one_tab m (List.mem_range.2 (by omega)))
 rw [← List.countP_eq_length_filter] at h1
 unfold fN facesL
 rw [List.countP_filter]
 have : ∀ l : List Nat, l.countP (fun s => decide (cnt m s = 1) && decide (Face L s)) ≤ l.countP fun s => Nat.beq (cnt m s) 1 := fun l => List.countP_mono_left fun s _ hs => by
  rw [Bool.and_eq_true] at hs
  rw [of_decide_eq_true hs.1]; rfl
 exact Nat.le_trans (this _) (Nat.le_of_eq h1)
/-- MASON'S numbers, of whatever is shelled, up to eight elements. -/
theorem mason {m : Nat} {L O : List Nat} (hv : Shv m L O) (hS : Shell m O) {k : Nat} (h1 : 1 ≤ k) (hk : k < dimL m L) :
  fN m L (k - 1) * fN m L (k + 1) * ((k + 1) * (m - k + 1)) ≤ fN m L k * fN m L k * (k * (m - k)) := by
 have h8 := hv.cx.m8
 have hd := dim_le m L
 have hz : hN m L 0 = 1 := by rw [h_zeroM, hv.cx.f_zero]; rfl
 have hpos : ∀ j, j ≤ dimL m L → hN m L j = ((hN m L j).toNat : Int) := fun j hj => by
  rcases Nat.eq_zero_or_pos j with q | q
  ·subst q; rw [hz]; rfl
  ·rcases Nat.lt_or_ge j (dimL m L) with q2 | q2
   ·obtain ⟨a, b, ea, _⟩ := h_mac hv hS q q2
    rw [ea]; rfl
   ·have : j = dimL m L := by omega
    obtain ⟨a, b, _, eb, _⟩ := h_mac hv hS (k := j - 1) (by omega) (by omega)
    rw [show j - 1 + 1 = j by omega] at eb
    rw [eb]; rfl
 have hf : ∀ i, i ≤ dimL m L → fN m L i = s0 (fun j => (hN m L j).toNat * bin (dimL m L - j) (i - j)) (i + 1) := fun i hi => by
  have := f_of_h h8 L hi
  rw [sumN_congr (h := fun j => (((hN m L j).toNat * bin (dimL m L - j) (i - j) : Nat) : Int)) fun j hj => ?_, sumN_s0] at this
  ·exact Int.ofNat.inj this
  ·rw [Int.natCast_mul, ← hpos j (by omega)]
 refine no_hollow (fun j => (hN m L j).toNat) (by simp only [hz]; rfl) ?_ h8 (fun i hi hi2 => ?_) hf h1 hk
 ·have h2 := hf 1 (by omega)
  have h3 := f_one h8 L
  have eb : bin (dimL m L) 1 = dimL m L := (show ∀ d : Fin 9, bin d.val 1 = d.val by decide) ⟨dimL m L, by omega⟩
  simp only [s0, Nat.sub_zero, Nat.sub_self, hz, bin_zero, eb] at h2
  have : Int.toNat 1 = 1 := rfl
  rw [this] at h2
  omega
 ·obtain ⟨a, b, ea, eb, _, hab⟩ := h_mac hv hS hi (by omega)
  simp only [ea, eb, Int.toNat_natCast]
  exact hab
end Go.SH
