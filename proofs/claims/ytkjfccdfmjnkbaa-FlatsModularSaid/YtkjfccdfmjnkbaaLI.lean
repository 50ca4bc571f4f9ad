/-
  The statement FlatsMobius as a plain law. Conditions: lists are no longer than 2^63 - 1.
-/
import Derived.Test.YtkjfccdfmjnkbaaLWa
import Derived.Test.YtkjfccdfmjnkbaaLB
import Derived.Test.YtkjfccdfmjnkbaaSpflats
import Derived.Test.YtkjfccdfmjnkbaaSprotalaw
set_option linter.unusedSimpArgs false
set_option linter.unusedVariables false
namespace Go.SH
open Go Go.AX

theorem cs_take (L : List Nat) (k : Nat) : (cs L).take k = cs (L.take k) := by simp [cs, List.map_take]
theorem take_getD (L : List Nat) {j k : Nat} (h : j < k) : (L.take k).getD j 0 = L.getD j 0 := by
  simp only [List.getD_eq_getElem?_getD, List.getElem?_take, if_pos h]
/-- The numbers up to k are there, x at k, nothing behind. -/
structure MB (F : List Nat) (k : Nat) (x : Int) (out : List Int) : Prop where
  len : out.length = F.length
  lo : ∀ i, i < k → out.getD i 0 = mob F i
  at_ : k < F.length → out.getD k 0 = x
  hi : ∀ i, k < i → i < F.length → out.getD i 0 = 0
theorem MB.start (F : List Nat) : MB F 0 0 (List.replicate F.length 0) := by
  have get : ∀ i, (List.replicate F.length (0 : Int)).getD i 0 = 0 := fun i => by
    rw [List.getD_eq_getElem?_getD, List.getElem?_replicate]; split <;> rfl
  exact ⟨by simp, fun i hi => by omega, fun _ => get _, fun i _ _ => get _⟩
theorem MB.set {F : List Nat} {k : Nat} {x : Int} {out : List Int} (h : MB F k x out) (hk : k < F.length) (y : Int) : MB F k y (out.set k y) := by
  have hk' : k < out.length := by rw [h.len]; exact hk
  refine ⟨by simp [h.len], fun i hi => ?_, fun _ => ?_, fun i hi hn => ?_⟩
  · rw [set_getD _ hk', if_neg (by omega)]; exact h.lo i hi
  · rw [set_getD _ hk', if_pos rfl]
  · rw [set_getD _ hk', if_neg (by omega)]; exact h.hi i hi hn
theorem MB.next {F : List Nat} {k : Nat} {out : List Int} (h : MB F k (mob F k) out) (hk : k < F.length) : MB F (k + 1) 0 out :=
  ⟨h.len, fun i hi => by
    rcases Nat.lt_succ_iff_lt_or_eq.1 hi with c | rfl
    · exact h.lo i c
    · exact h.at_ hk, fun hk1 => h.hi _ (by omega) hk1, fun i hi hn => h.hi i (by omega) hn⟩
theorem MB.done {F : List Nat} {x : Int} {out : List Int} (h : MB F F.length x out) : out = mobL F F.length := by
  refine list_ext_getD (by rw [h.len, mobL_len]) fun i hi => ?_
  rw [h.len] at hi
  rw [h.lo i hi, mobL_get F hi]

section
variable {m : Nat} {F : List Nat} (hF : Fam m F) (hsub : F.Sublist (List.range (2 ^ m)))
include hF hsub
theorem mobius_ok (l0 : Int) (l3 : List Int) : flats_lattice_mobius l0 (cs F) l3 = some (mobL F F.length) := by
  refine Gets.eq ?_
  have hlen := hF.len
  unfold flats_lattice_mobius
  simp only [cs_len, toNat_nat]
  refine gChk (by omega) (gBind (R := fun o => o = mobL F F.length) (gFor F.length (fun k (x : List Int × Int) => x.2 = (k : Int) ∧ MB F k 0 x.1) (Nat.zero_le _) ⟨rfl, MB.start F⟩ ?_) fun o ho => gSome ho)
  rintro k ⟨out, _⟩ hk ⟨rfl, hmb⟩
  simp only at hmb ⊢
  have hol := hmb.len
  refine gIte (fun h1 => gChk (by omega) ?_) fun h1 => gSome (by have e : k = F.length := (by omega); subst e; exact hmb.done)
  have hk' : k < F.length := by omega
  refine gIte (fun h2 => gChk (by omega) (gSome ⟨hk', by simp, ?_⟩)) fun h2 => gChk (by omega) ?_
  · have h0 : k = 0 := by omega
    subst h0
    exact MB.next (by rw [show mob F 0 = 1 by rw [mob_eq]; rfl]; exact hmb.set hk' 1) hk'
  · simp only [toNat_nat, cs_take, cs_len, cs_get]
    have htl : (F.take k).length = k := by rw [List.length_take]; omega
    rw [htl]
    have hk0 : k ≠ 0 := by omega
    refine gBind (R := fun o => MB F k (mob F k) o) (gFor k (fun j (x : List Int × Int) => x.2 = (j : Int) ∧ MB F k (- sumN j (fun i => if Inc (F.getD i 0) (F.getD k 0) then mob F i else 0)) x.1) (Nat.zero_le _) ⟨rfl, by simpa [sumN] using hmb⟩ ?_) fun o ho => gSome ⟨hk', by simp, ho.next hk'⟩
    rintro j ⟨o2, _⟩ hj ⟨rfl, hm2⟩
    simp only at hm2 ⊢
    have ho2 := hm2.len
    refine gIte (fun h3 => gChk (by omega) ?_) fun h3 => gSome ?_
    · have hj' : j < k := by omega
      simp only [toNat_nat, take_getD F hj', and_nat]
      have b1 := hF.part_small hsub (F.getD k 0) (i := j) (by omega)
      have b2 := hF.mob_small hsub (i := j) (by omega)
      have e1 := hm2.at_ hk'
      have e2 := hm2.lo j hj'
      refine gIte (fun h4 => gChk (by omega) (gSome ⟨hj', by simp, ?_⟩)) fun h4 => gSome ⟨hj', by simp, ?_⟩
      · have hin : Inc (F.getD j 0) (F.getD k 0) := (sub_iff_and _ _).1 (by omega)
        show MB F k _ (o2.set k _)
        rw [e1, e2]
        simp only [sumN, if_pos hin]
        rw [show -(sumN j (fun i => if Inc (F.getD i 0) (F.getD k 0) then mob F i else 0) + mob F j) = -sumN j (fun i => if Inc (F.getD i 0) (F.getD k 0) then mob F i else 0) - mob F j by omega]
        exact hm2.set hk' _
      · have hin : ¬ Inc (F.getD j 0) (F.getD k 0) := fun c => h4 (by rw [(sub_iff_and _ _).2 c])
        simp only [sumN, if_neg hin, Int.add_zero]
        exact hm2
    · have : j = k := by omega
      subst this
      rw [mob_eq, if_neg hk0]; exact hm2
end

theorem flats_of_ok {m : Nat} {B : List Nat} (h : Mat m B) : flats_of m (cs B) = some ((m : Int), cs (flats m B), cs (rkL m B), 0) := by
  unfold flats_of
  rw [Flats_ok h (by have := h.len; omega), Option.bind_some, if_neg (by simp), axioms_Ranks_ok h]; rfl
theorem flats_of_bad {n : Int} {l : List Int} {c : Int} (h : axioms_Check n l = some c) (h0 : c ≠ 0) : flats_of n l = some (0, [], [], c) := by
  unfold flats_of
  rw [Flats_bad h h0, Option.bind_some, if_pos h0]
def covers (m : Nat) (B : List Nat) (f : Nat) : List Nat := (flats m B).filter fun g => decide (Inc f g ∧ rk m B g = rk m B f + 1)
theorem mem_covers {m : Nat} {B : List Nat} {f g : Nat} : g ∈ covers m B f ↔ g < 2 ^ m ∧ Flat m B g ∧ Inc f g ∧ rk m B g = rk m B f + 1 := by
  unfold covers
  rw [List.mem_filter, mem_flats, decide_eq_true_eq]
  exact ⟨fun ⟨⟨a, b⟩, c, d⟩ => ⟨a, b, c, d⟩, fun ⟨a, b, c, d⟩ => ⟨⟨a, b⟩, c, d⟩⟩
section
variable {m : Nat} {B : List Nat} (h : Mat m B)
include h
theorem Mat.flat_grow {a b : Nat} (hb : b < 2 ^ m) (ha : Flat m B a) (hab : Inc a b) (hr : rk m B b ≤ rk m B a) : b = a := by
  refine Inc.antisymm (fun i hi => ?_) hab
  cases hq : a.testBit i with
  | true => rfl
  | false =>
    exfalso
    have h1 := ha i (bit_lt hb hi) hq
    have h2 := h.rk_mono (s := a ||| 2 ^ i) (t := b) (inc_or hab (inc_pow hi))
    have h3 := h.rk_mono (inc_or_l a (2 ^ i))
    omega
theorem Mat.covers_meet {f x y : Nat} (hf : Flat m B f) (hx : x ∈ covers m B f) (hy : y ∈ covers m B f) (hne : x ≠ y) : x &&& y = f := by
  obtain ⟨x1, x2, x3, x4⟩ := mem_covers.1 hx
  obtain ⟨y1, y2, y3, y4⟩ := mem_covers.1 hy
  have hz := h.flat_and x2 y2
  have hfz : Inc f (x &&& y) := inc_and x3 y3
  rcases Nat.lt_or_ge (rk m B f) (rk m B (x &&& y)) with q | q
  · exfalso
    have e1 := h.flat_grow x1 hz (inc_and_l x y) (by omega)
    have e2 := h.flat_grow y1 hz (inc_and_r x y) (by omega)
    exact hne (by rw [e1, ← e2])
  · exact h.flat_grow (and_lt x1) hf hfz q
theorem Mat.covers_all {f i : Nat} (hfm : f < 2 ^ m) (hf : Flat m B f) (hi : i < m) (hb : f.testBit i = false) : ∃ x, x ∈ covers m B f ∧ x.testBit i = true := by
  obtain ⟨c, hc⟩ := h.cl_exists (s := f ||| 2 ^ i) (or_lt hfm (pow_lt hi))
  have h1 := h.cl_rk (or_lt hfm (pow_lt hi)) hc
  have h2 := h.cl_flat (or_lt hfm (pow_lt hi)) hc
  have h3 := h.cl_inc (or_lt hfm (pow_lt hi)) hc
  have h4 := hf i hi hb
  have h5 := h.rk_step f hi
  have h6 := h.rk_mono (inc_or_l f (2 ^ i))
  exact ⟨c, mem_covers.2 ⟨hc.1, h2, (inc_or_l _ _).trans h3, by omega⟩, h3 i (by rw [Nat.testBit_or, testBit_pow]; simp)⟩
end

end Go.SH
