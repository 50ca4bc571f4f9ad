/-
 The law FlatsConcave: neither the polynomial's coefficients nor the independent sets have a hollow. Conditions: none.
-/
import Derived.Test.YtlpikingpnenkaaLfV
import Derived.Test.YtlpikingpnenkaaSkFlatsConcave
set_option linter.unusedSimpArgs false
set_option linter.unusedVariables false
namespace Go.SH
open Go Go.AX
/-! ### the lexical order of the bases -/
theorem lex_ex {m : Nat} {B : List Nat} (h : Mat m B) : ∃ O, LexO B O := by
 have hp := List.mergeSort_perm B fun x y => decide (kx x ≤ kx y)
 have hs := List.pairwise_mergeSort (le := fun x y : Nat => decide (kx x ≤ kx y)) (fun a b c h1 h2 => by simp only [decide_eq_true_eq] at *; omega) (fun a b => by simp only [Bool.or_eq_true, decide_eq_true_eq]; omega) B
 refine ⟨_, hp, ?_⟩
 have hn : B.Nodup := by
  refine List.pairwise_iff_getElem.2 fun i j hi hj hij => ?_
  have := h.rise i j hij hj
  rw [List.getD_eq_getElem?_getD, List.getD_eq_getElem?_getD, List.getElem?_eq_getElem hi, List.getElem?_eq_getElem hj] at this
  exact Nat.ne_of_lt this
 have hnd : (B.mergeSort fun x y => decide (kx x ≤ kx y)).Nodup := hp.nodup_iff.2 hn
 have both := List.Pairwise.and hs hnd
 refine both.imp_of_mem fun {a b} ha hb q => ?_
 have h1 : kx a ≤ kx b := of_decide_eq_true q.1
 have h2 : kx a ≠ kx b := fun e => q.2 (kx_inj (h.lt256 (hp.mem_iff.1 ha)) (h.lt256 (hp.mem_iff.1 hb)) e)
 omega
theorem Mat.shv {m : Nat} {B O : List Nat} (h : Mat m B) (ho : LexO B O) : Shv m B O ∧ dimL m B = rk m B (2 ^ m - 1) := by
 have hd := dim_pure (m := m) h.ne fun s hs => h.cnt_b hs
 exact ⟨⟨h.cx, ho.perm, fun s hs => by rw [hd]; exact h.cnt_b hs⟩, hd⟩
/-! ### independent sets as they are counted -/
theorem flats_size_nat {a : Nat} (h : a < 256) : flats_size (a : Int) = some ((size a : Nat) : Int) := by
 unfold flats_size
 rw [chk_pos (by omega)]
 simp [bits_OnesCount, oc_size h]
def indL (m : Nat) (B : List Nat) : List Int := (List.range (rk m B (2 ^ m - 1) + 1)).map fun k => ((fN m B k : Nat) : Int)
theorem indL_len (m : Nat) (B : List Nat) : (indL m B).length = rk m B (2 ^ m - 1) + 1 := by simp [indL]
theorem indL_get {m : Nat} {B : List Nat} {k : Nat} (h : k < rk m B (2 ^ m - 1) + 1) : (indL m B).getD k 0 = ((fN m B k : Nat) : Int) := by
 unfold indL
 rw [List.getD_eq_getElem?_getD, List.getElem?_map, List.getElem?_range h]; rfl
section
variable {m : Nat} {B : List Nat} (h : Mat m B)
include h
theorem Mat.fN_rk (k : Nat) : fN m B k = (List.range (2 ^ m)).countP fun s => decide (rk m B s = cnt m s ∧ cnt m s = k) := by
 unfold fN facesL
 rw [List.countP_filter]
 refine List.countP_congr fun s hs => ?_
 have hlt := List.mem_range.1 hs
 have := h.ind_iff hlt
 rw [Bool.and_eq_true, decide_eq_true_eq, decide_eq_true_eq, decide_eq_true_eq, ← this]
 exact ⟨fun q => ⟨q.2, q.1⟩, fun q => ⟨q.2, q.1⟩⟩
theorem Mat.Indep_ok : flats_Independent m (cs B) = some (indL m B, 0) := by
 have h8 := h.m8
 have h256 := pow_le8 h8
 have hR := h.rk_size (2 ^ m - 1)
 have hR8 := cnt_le m (2 ^ m - 1)
 refine Gets.eq ?_
 unfold flats_Independent
 refine gBindE (flats_of_ok h) (gIte (fun q => absurd rfl q) fun _ => ?_)
 refine gBindE (rank_ok B h8 _ _) (gChk (by omega) ?_)
 have eR : (((rk m B (2 ^ m - 1) : Nat) : Int) + 1).toNat = rk m B (2 ^ m - 1) + 1 := by omega
 rw [eR]
 refine gBind (R := fun o => o = indL m B) (gFor (2 ^ m) (fun k (x : List Int × Int) => x.2 = (k : Int) ∧ x.1.length = rk m B (2 ^ m - 1) + 1 ∧ ∀ j, j < rk m B (2 ^ m - 1) + 1 → x.1.getD j 0 = (((List.range k).countP (fun s => decide (rk m B s = cnt m s ∧ cnt m s = j)) : Nat) : Int)) (Nat.zero_le _) ⟨rfl, by simp, fun j hj => by
   rw [List.getD_eq_getElem?_getD, List.getElem?_replicate]; simp [hj]⟩ ?_) fun o ho => gSome (by rw [ho])
 rintro k ⟨v, _⟩ hk ⟨rfl, i1, i2⟩
 simp only [cs_len, rkL_len, cs_get, toNat_nat] at i1 i2 ⊢
 refine gIte (fun h1 => ?_) fun h1 => gSome ?_
 ·have hk' : k < 2 ^ m := by omega
  have hrf := h.rk_full hk'
  refine gChk (by omega) ?_
  rw [flats_size_nat (by omega), Option.bind_some, size_of_lt hk' h8, rkL_get m B hk']
  refine gIte (fun q => ?_) fun q => gSome ⟨hk', by simp, i1, fun j hj => ?_⟩
  ·have hj : rk m B k < rk m B (2 ^ m - 1) + 1 := by omega
   have hcp := List.countP_le_length (p := fun s => decide (rk m B s = cnt m s ∧ cnt m s = rk m B k)) (l := List.range k)
   rw [List.length_range] at hcp
   have eN := i2 _ hj
   refine gChk ⟨by omega, by omega, by omega⟩ (gSome ⟨hk', by simp, by simp [i1], fun j hj2 => ?_⟩)
   show (v.set _ _).getD j 0 = _
   rw [set_getD _ (by omega), List.range_succ, List.countP_append, List.countP_cons, List.countP_nil]
   by_cases e : j = rk m B k
   ·rw [if_pos e, if_pos (by simp [e]; omega), e]; omega
   ·rw [if_neg e, if_neg (by simp; omega), i2 j hj2]; omega
  ·rw [List.range_succ, List.countP_append, List.countP_cons, List.countP_nil, if_neg (by simp; omega), i2 j hj]; omega
 ·have e : k = 2 ^ m := by omega
  subst e
  refine list_ext_getD (by rw [i1, indL_len]) fun j hj => ?_
  rw [i1] at hj
  rw [i2 j hj, indL_get hj, h.fN_rk]
/-- The polynomial's coefficients are, but for their signs, numbers of sets without broken circuits. -/
theorem Mat.chr_abs {O : List Nat} (ho : LexO B O) (hf : Flat m B 0) {k : Nat} (hk : k < rk m B (2 ^ m - 1) + 1) :
  (chr m B).getD (rk m B (2 ^ m - 1) - k) 0 = sg k * ((fN m (B.filter fun s => decide (NB m B s)) k : Nat) : Int) := by
 have e : ((fN m (B.filter fun s => decide (NB m B s)) k : Nat) : Int) = sumN (2 ^ m) (fun s => if NB m B s ∧ cnt m s = k then 1 else 0) := by
  rw [fN_sum]
  refine sumN_congr fun s hs => ?_
  have := h.nb_face ho hs
  by_cases q : NB m B s ∧ cnt m s = k
  ·rw [if_pos q, if_pos ⟨q.2, this.2 q.1⟩]
  ·rw [if_neg q, if_neg fun w => q ⟨this.1 w.2, w.1⟩]
 rw [e, ← h.whitney hf]
 unfold chr
 rw [if_pos (h.flat0.2 hf), List.getD_eq_getElem?_getD, List.getElem?_map, List.getElem?_range (by omega)]
 refine sumN_congr fun i hi => ?_
 have := h.rk_full (mem_flats.1 (mem_getD.2 ⟨i, hi, rfl⟩)).1
 by_cases e : rk m B ((flats m B).getD i 0) = k
 ·rw [if_pos e, if_pos (by omega)]
 ·rw [if_neg e, if_neg (by omega)]
end
theorem Indep_bad {n : Int} {l : List Int} {c : Int} (h : axioms_Check n l = some c) (h0 : c ≠ 0) : flats_Independent n l = some ([], c) := by
 unfold flats_Independent
 rw [flats_of_bad h h0, Option.bind_some, if_pos h0]
theorem fN_le256 {m : Nat} (h8 : m ≤ 8) (L : List Nat) (k : Nat) : fN m L k ≤ 256 := by
 have h1 := List.length_filter_le (fun s => decide (Face L s)) (List.range (2 ^ m))
 rw [List.length_range] at h1
 have h2 := pow_le8 h8
 exact Nat.le_trans List.countP_le_length (Nat.le_trans h1 h2)
theorem abs_sg (k : Nat) {M : Nat} (h : M ≤ 256) : rotakeep_abs (sg k * (M : Int)) = some (M : Int) := by
 unfold rotakeep_abs sg
 split
 ·rw [chk_pos (by omega)]; congr 1; omega
 ·rw [chk_pos (by omega)]; congr 1; omega
theorem sg_sq (k : Nat) (x : Int) : sg k * x * (sg k * x) = x * x := by
 have : sg k * sg k = 1 := by unfold sg; split <;> rfl
 rw [show sg k * x * (sg k * x) = sg k * sg k * (x * x) by simp only [Int.mul_assoc, Int.mul_left_comm], this, Int.one_mul]
theorem abs_zero : rotakeep_abs 0 = some 0 := by
 unfold rotakeep_abs
 rw [chk_pos (by omega)]; rfl
theorem ind_two : indL 4 (uniL 4 2) = [1, 4, 6] := by decide +kernel
theorem rotakeep_FlatsConcave_law (n : Int) (l : List Int) (hl : l.length ≤ 9223372036854775807) : rotakeep_FlatsConcave n l = some true := by
 refine Gets.eq ?_
 unfold rotakeep_FlatsConcave
 refine gBindE two_eqU (gBindE (uni_mat (m := 4) (k := 2) (by omega) (by omega)).Indep_ok ?_)
 rw [ind_two]
 refine gIte (fun _ => ?_) fun q => absurd (by simp) q
 refine gBindE (Same_spec _ _) (gIte (fun q => absurd (by simp) q) fun _ => ?_)
 obtain ⟨c, hc, hs⟩ := axioms_Check_spec n l hl
 rcases hs with ⟨rfl, m, B, rfl, rfl, hM⟩ | ⟨h0, _⟩
 rotate_left
 ·exact gBindE (Char_bad hc h0) (gBindE (Indep_bad hc h0) (gIte (fun _ => gChk (by simp) (gSome (by simp))) fun q => absurd h0 q))
 have h8 := hM.m8
 have h256 := pow_le8 h8
 have hR := hM.rk_size (2 ^ m - 1)
 have hR8 := cnt_le m (2 ^ m - 1)
 obtain ⟨O, ho⟩ := lex_ex hM
 refine gBindE hM.Char_ok (gBindE hM.Indep_ok (gIte (fun q => absurd rfl q) fun _ => ?_))
 have hcl : (chr m B).length = rk m B (2 ^ m - 1) + 1 := chr_len m B
 have hil : (indL m B).length = rk m B (2 ^ m - 1) + 1 := indL_len m B
 simp only [hcl, hil]
 refine gBind (R := fun z => match z with | .inl _ => True | .inr r => False) (gFor (rk m B (2 ^ m - 1) + 1) (fun k v => v = (k : Int) + 1) (Nat.zero_le _) rfl ?_) ?_
 ·rintro k _ hk rfl
  refine gChk (by omega) (gIte (fun h1 => ?_) fun h1 => gSome trivial)
  have hk1 : k + 2 < rk m B (2 ^ m - 1) + 1 := by omega
  have e1 : ((k : Int) + 1).toNat = k + 1 := by omega
  have e2 : ((k : Int) + 1 - 1).toNat = k := by omega
  have e3 : ((k : Int) + 1 + 1).toNat = k + 2 := by omega
  rw [e1, e2, e3]
  by_cases hf : Flat m B 0
  ·obtain ⟨hv, hd⟩ := hM.nb_shv ho hf
   have hS := hM.nb_shell ho
   -- j + 1 is the place from below
   obtain ⟨j, hj⟩ : ∃ j, rk m B (2 ^ m - 1) = k + 2 + j := ⟨rk m B (2 ^ m - 1) - (k + 2), by omega⟩
   have g1 := hM.chr_abs ho hf (k := j + 1) (by omega)
   have g2 := hM.chr_abs ho hf (k := j + 2) (by omega)
   have g3 := hM.chr_abs ho hf (k := j) (by omega)
   rw [show rk m B (2 ^ m - 1) - (j + 1) = k + 1 by omega] at g1
   rw [show rk m B (2 ^ m - 1) - (j + 2) = k by omega] at g2
   rw [show rk m B (2 ^ m - 1) - j = k + 2 by omega] at g3
   have hm := mason hv hS (k := j + 1) (by omega) (by omega)
   have b1 := fN_le256 h8 (B.filter fun s => decide (NB m B s)) (j + 1)
   have b2 := fN_le256 h8 (B.filter fun s => decide (NB m B s)) (j + 2)
   have b3 := fN_le256 h8 (B.filter fun s => decide (NB m B s)) j
   rw [show j + 1 - 1 = j by omega, show j + 1 + 1 = j + 2 by omega] at hm
   rw [g1, g2, g3, sg_sq]
   have hjm : j + 1 < m := by omega
   generalize fN m (B.filter fun s => decide (NB m B s)) (j + 1) = X at *
   generalize fN m (B.filter fun s => decide (NB m B s)) (j + 2) = Y at *
   generalize fN m (B.filter fun s => decide (NB m B s)) j = Z at *
   have c1 : X * X ≤ 256 * 256 := Nat.mul_le_mul b1 b1
   have c2 : Y * Z ≤ 256 * 256 := Nat.mul_le_mul b2 b3
   have c3 : Z * Y ≤ X * X := by
    have q1 : (j + 1) * (m - (j + 1)) ≤ (j + 2) * (m - (j + 1) + 1) := Nat.mul_le_mul (by omega) (by omega)
    have q2 := Nat.le_trans (Nat.mul_le_mul_left (Z * Y) q1) hm
    exact Nat.le_of_mul_le_mul_right q2 (Nat.mul_pos (by omega) (by omega))
   rw [Nat.mul_comm Z Y] at c3
   have d1 : (X : Int) * X = ((X * X : Nat) : Int) := by simp
   have d2 : (Y : Int) * Z = ((Y * Z : Nat) : Int) := by simp
   rw [d1]
   refine gChk ⟨by omega, by omega, by omega, by omega⟩ (gBindE (abs_sg _ b2) (gChk (by omega) (gBindE (abs_sg _ b3) ?_)))
   rw [d2]
   exact gChk (by omega) (gIte (fun q => absurd q (by omega)) fun _ => gChk (by omega) (gSome ⟨by omega, by omega⟩))
  ·have hz : ∀ i, (chr m B).getD i 0 = 0 := fun i => by
    unfold chr
    rw [if_neg fun q => hf (hM.flat0.1 q), List.getD_eq_getElem?_getD, List.getElem?_replicate]
    split <;> rfl
   rw [hz, hz, hz]
   exact gChk (by omega) (gBindE abs_zero (gChk (by omega) (gBindE abs_zero (gChk (by omega) (gIte (fun q => absurd q (by omega)) fun _ => gChk (by omega) (gSome ⟨by omega, by omega⟩))))))
 ·rintro (u | rr) hz
  rotate_left
  ·exact hz.elim
  refine gBind (R := fun z => match z with | .inl _ => True | .inr r => False) (gFor (rk m B (2 ^ m - 1) + 1) (fun k v => v = (k : Int) + 1) (Nat.zero_le _) rfl ?_) ?_
  ·rintro k _ hk rfl
   refine gChk (by omega) (gIte (fun h1 => ?_) fun h1 => gSome trivial)
   have hk1 : k + 2 < rk m B (2 ^ m - 1) + 1 := by omega
   have e1 : ((k : Int) + 1).toNat = k + 1 := by omega
   have e2 : ((k : Int) + 1 - 1).toNat = k := by omega
   have e3 : ((k : Int) + 1 + 1).toNat = k + 2 := by omega
   obtain ⟨hv, hd⟩ := hM.shv ho
   have hm := mason hv (hM.lex_shell ho) (k := k + 1) (by omega) (by omega)
   rw [e1, e2, e3, indL_get (by omega), indL_get (by omega), indL_get (by omega)]
   rw [show k + 1 - 1 = k by omega, show k + 1 + 1 = k + 2 by omega] at hm
   have b1 := fN_le256 h8 B (k + 1)
   have b2 := fN_le256 h8 B (k + 2)
   have b3 := fN_le256 h8 B k
   generalize fN m B (k + 1) = X at *
   generalize fN m B (k + 2) = Y at *
   generalize fN m B k = Z at *
   have hkm : k + 1 < m := by omega
   obtain ⟨w, hw⟩ : ∃ w, m = k + 1 + w := ⟨m - (k + 1), by omega⟩
   have ew : m - (k + 1) = w := by omega
   rw [ew] at hm
   have c1 : X * X ≤ 256 * 256 := Nat.mul_le_mul b1 b1
   have c2 : Z * Y ≤ 256 * 256 := Nat.mul_le_mul b3 b2
   have c3 : X * X * (k + 1) ≤ 256 * 256 * 8 := Nat.mul_le_mul c1 (by omega)
   have c4 : X * X * (k + 1) * w ≤ 256 * 256 * 8 * 8 := Nat.mul_le_mul c3 (by omega)
   have c5 : Z * Y * (k + 2) ≤ 256 * 256 * 9 := Nat.mul_le_mul c2 (by omega)
   have c6 : Z * Y * (k + 2) * (w + 1) ≤ 256 * 256 * 9 * 9 := Nat.mul_le_mul c5 (by omega)
   have hm2 : Z * Y * (k + 2) * (w + 1) ≤ X * X * (k + 1) * w := by
    rw [Nat.mul_assoc (Z * Y), Nat.mul_assoc (X * X)]; exact hm
   have d0 : (m : Int) - ((k : Int) + 1) = (w : Int) := by omega
   have d1 : (X : Int) * X = ((X * X : Nat) : Int) := by simp
   have d2 : (Z : Int) * Y = ((Z * Y : Nat) : Int) := by simp
   have d3 : ((X * X : Nat) : Int) * ((k : Int) + 1) = ((X * X * (k + 1) : Nat) : Int) := by simp
   have d4 : ((Z * Y : Nat) : Int) * ((k : Int) + 1 + 1) = ((Z * Y * (k + 2) : Nat) : Int) := by
    rw [Int.natCast_mul (Z * Y), show ((k : Int) + 1 + 1) = ((k + 2 : Nat) : Int) by omega]
   have d5 : ((X * X * (k + 1) : Nat) : Int) * (w : Int) = ((X * X * (k + 1) * w : Nat) : Int) := (Int.natCast_mul _ _).symm
   have d6 : ((Z * Y * (k + 2) : Nat) : Int) * ((w : Int) + 1) = ((Z * Y * (k + 2) * (w + 1) : Nat) : Int) := by
    rw [Int.natCast_mul (Z * Y * (k + 2)), show ((w : Int) + 1) = ((w + 1 : Nat) : Int) by omega]
   rw [d0, d1, d2, d3, d4, d5, d6]
   refine gChk ⟨by omega, by omega, by omega, by omega, by omega, by omega, by omega, by omega, by omega, by omega, by omega, by omega, by omega⟩ (gIte (fun q => absurd q (by omega)) fun _ => gChk (by omega) (gSome ⟨by omega, by omega⟩))
  ·rintro (u | rr) hz
   ·exact gSome (by simp)
   ·exact hz.elim
end Go.SH
