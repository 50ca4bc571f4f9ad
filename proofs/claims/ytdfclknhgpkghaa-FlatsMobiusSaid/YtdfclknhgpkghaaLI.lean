/-
  The statement FlatsMobius as a plain law. Conditions: lists are no longer than 2^63 - 1.
-/
import Derived.Test.YtdfclknhgpkghaaLH
import Derived.Test.YtdfclknhgpkghaaLE
import Derived.Test.YtdfclknhgpkghaaEFl
import Derived.Test.YtdfclknhgpkghaaSkFlatsMobius
set_option linter.unusedSimpArgs false
set_option linter.unusedVariables false
namespace Go.SH
open Go Go.AX

theorem chains_two : flats_Chains 4 (cs twoB) = some (4, 0) := E_flats_Chains _ _ _ (by kernel_rfl)
theorem cs_take (L : List Nat) (k : Nat) : (cs L).take k = cs (L.take k) := by simp [cs, List.map_take]
theorem take_getD (L : List Nat) {j k : Nat} (h : j < k) : (L.take k).getD j 0 = L.getD j 0 := by
  simp only [List.getD_eq_getElem?_getD, List.getElem?_take, if_pos h]
theorem Same64_self (l : List Int) : rotalaw_Same_int64 l l = some true := by
  refine Gets.eq ?_
  unfold rotalaw_Same_int64
  refine gIte (fun q => absurd rfl q) fun _ => gBind (R := fun z => match z with | .inl _ => True | .inr r => False) (gFor l.length (fun k v => v = (k : Int)) (Nat.zero_le _) rfl ?_) ?_
  · rintro k _ hk rfl
    exact gIte (fun h1 => gChk (by omega) (gIte (fun q => absurd rfl q) fun _ => gSome ⟨by omega, by simp⟩)) fun _ => gSome trivial
  · rintro (u | rr) hz
    · exact gSome rfl
    · exact hz.elim

/-- The numbers up to k are there, x at k, nothing behind. -/
structure MB (F : List Nat) (k : Nat) (x : Int) (out : List Int) : Prop where
  len : out.length = F.length
  lo : ∀ i, i < k → out.getD i 0 = mob F i
  at_ : k < F.length → out.getD k 0 = x
  hi : ∀ i, k < i → i < F.length → out.getD i 0 = 0
theorem MB.start (F : List Nat) : MB F 0 0 (List.replicate F.length 0) := by
  have get : ∀ i, (List.replicate F.length (0 : Int)).getD i 0 = 0 := fun i => by
    rw [List.getD_eq_getElem?_getD, List.getElem?_replicate]; split <;> rfl
  exact ⟨by simp, fun i hi => by omega, fun _ => get _, fun i _ _ => get _⟩
theorem MB.set {F : List Nat} {k : Nat} {x : Int} {out : List Int} (h : MB F k x out) (hk : k < F.length) (y : Int) : MB F k y (out.set k y) := by
  have hk' : k < out.length := by rw [h.len]; exact hk
  refine ⟨by simp [h.len], fun i hi => ?_, fun _ => ?_, fun i hi hn => ?_⟩
  · rw [set_getD _ hk', if_neg (by omega)]; exact h.lo i hi
  · rw [set_getD _ hk', if_pos rfl]
  · rw [set_getD _ hk', if_neg (by omega)]; exact h.hi i hi hn
theorem MB.next {F : List Nat} {k : Nat} {out : List Int} (h : MB F k (mob F k) out) (hk : k < F.length) : MB F (k + 1) 0 out :=
  ⟨h.len, fun i hi => by
    rcases Nat.lt_succ_iff_lt_or_eq.1 hi with c | rfl
    · exact h.lo i c
    · exact h.at_ hk, fun hk1 => h.hi _ (by omega) hk1, fun i hi hn => h.hi i (by omega) hn⟩
theorem MB.done {F : List Nat} {x : Int} {out : List Int} (h : MB F F.length x out) : out = mobL F F.length := by
  refine list_ext_getD (by rw [h.len, mobL_len]) fun i hi => ?_
  rw [h.len] at hi
  rw [h.lo i hi, mobL_get F hi]

section
variable {m : Nat} {F : List Nat} (hF : Fam m F) (hsub : F.Sublist (List.range (2 ^ m)))
include hF hsub
theorem mobius_ok (l0 : Int) (l3 : List Int) : flats_lattice_mobius l0 (cs F) l3 = some (mobL F F.length) := by
  refine Gets.eq ?_
  have hlen := hF.len
  unfold flats_lattice_mobius
  simp only [cs_len, toNat_nat]
  refine gChk (by omega) (gBind (R := fun o => o = mobL F F.length) (gFor F.length (fun k (x : List Int × Int) => x.2 = (k : Int) ∧ MB F k 0 x.1) (Nat.zero_le _) ⟨rfl, MB.start F⟩ ?_) fun o ho => gSome ho)
  rintro k ⟨out, _⟩ hk ⟨rfl, hmb⟩
  simp only at hmb ⊢
  have hol := hmb.len
  refine gIte (fun h1 => gChk (by omega) ?_) fun h1 => gSome (by have e : k = F.length := (by omega); subst e; exact hmb.done)
  have hk' : k < F.length := by omega
  refine gIte (fun h2 => gChk (by omega) (gSome ⟨hk', by simp, ?_⟩)) fun h2 => gChk (by omega) ?_
  · have h0 : k = 0 := by omega
    subst h0
    exact MB.next (by rw [show mob F 0 = 1 by rw [mob_eq]; rfl]; exact hmb.set hk' 1) hk'
  · simp only [toNat_nat, cs_take, cs_len, cs_get]
    have htl : (F.take k).length = k := by rw [List.length_take]; omega
    rw [htl]
    have hk0 : k ≠ 0 := by omega
    refine gBind (R := fun o => MB F k (mob F k) o) (gFor k (fun j (x : List Int × Int) => x.2 = (j : Int) ∧ MB F k (- sumN j (fun i => if Inc (F.getD i 0) (F.getD k 0) then mob F i else 0)) x.1) (Nat.zero_le _) ⟨rfl, by simpa [sumN] using hmb⟩ ?_) fun o ho => gSome ⟨hk', by simp, ho.next hk'⟩
    rintro j ⟨o2, _⟩ hj ⟨rfl, hm2⟩
    simp only at hm2 ⊢
    have ho2 := hm2.len
    refine gIte (fun h3 => gChk (by omega) ?_) fun h3 => gSome ?_
    · have hj' : j < k := by omega
      simp only [toNat_nat, take_getD F hj', and_nat]
      have b1 := hF.part_small hsub (F.getD k 0) (i := j) (by omega)
      have b2 := hF.mob_small hsub (i := j) (by omega)
      have e1 := hm2.at_ hk'
      have e2 := hm2.lo j hj'
      refine gIte (fun h4 => gChk (by omega) (gSome ⟨hj', by simp, ?_⟩)) fun h4 => gSome ⟨hj', by simp, ?_⟩
      · have hin : Inc (F.getD j 0) (F.getD k 0) := (sub_iff_and _ _).1 (by omega)
        show MB F k _ (o2.set k _)
        rw [e1, e2]
        simp only [sumN, if_pos hin]
        rw [show -(sumN j (fun i => if Inc (F.getD i 0) (F.getD k 0) then mob F i else 0) + mob F j) = -sumN j (fun i => if Inc (F.getD i 0) (F.getD k 0) then mob F i else 0) - mob F j by omega]
        exact hm2.set hk' _
      · have hin : ¬ Inc (F.getD j 0) (F.getD k 0) := fun c => h4 (by rw [(sub_iff_and _ _).2 c])
        simp only [sumN, if_neg hin, Int.add_zero]
        exact hm2
    · have : j = k := by omega
      subst this
      rw [mob_eq, if_neg hk0]; exact hm2
end

theorem flats_of_ok {m : Nat} {B : List Nat} (h : Mat m B) : flats_of m (cs B) = some ((m : Int), cs (flats m B), cs (rkL m B), 0) := by
  unfold flats_of
  rw [Flats_ok h (by have := h.len; omega), Option.bind_some, if_neg (by simp), axioms_Ranks_ok h]; rfl
theorem flats_of_bad {n : Int} {l : List Int} {c : Int} (h : axioms_Check n l = some c) (h0 : c ≠ 0) : flats_of n l = some (0, [], [], c) := by
  unfold flats_of
  rw [Flats_bad h h0, Option.bind_some, if_pos h0]
def covers (m : Nat) (B : List Nat) (f : Nat) : List Nat := (flats m B).filter fun g => decide (Inc f g ∧ rk m B g = rk m B f + 1)
theorem mem_covers {m : Nat} {B : List Nat} {f g : Nat} : g ∈ covers m B f ↔ g < 2 ^ m ∧ Flat m B g ∧ Inc f g ∧ rk m B g = rk m B f + 1 := by
  unfold covers
  rw [List.mem_filter, mem_flats, decide_eq_true_eq]
  exact ⟨fun ⟨⟨a, b⟩, c, d⟩ => ⟨a, b, c, d⟩, fun ⟨a, b, c, d⟩ => ⟨⟨a, b⟩, c, d⟩⟩
theorem Covers_ok {m : Nat} {B : List Nat} (h : Mat m B) (f : Int) : Gets (flats_Covers m (cs B) f) (fun r => (r.2 ≠ 0 ∧ r.1 = []) ∨ ∃ g : Nat, f = (g : Int) ∧ g < 2 ^ m ∧ Flat m B g ∧ r.2 = 0 ∧ r.1 = cs (covers m B g)) := by
  have h8 := h.m8
  have h256 := pow_le8 h8
  have hF : Fam m (flats m B) := filter_fam h8 _
  have hlen := hF.len
  unfold flats_Covers
  refine gBindE (flats_of_ok h) (gIte (fun q => absurd rfl q) fun _ => ?_)
  refine gBindE (slices_Contains_spec _ f (by simp; omega)) (gIte (fun _ => gSome (.inl ⟨by simp, rfl⟩)) fun q => ?_)
  have hf : f ∈ cs (flats m B) := by simpa using q
  obtain ⟨g, hg, rfl⟩ := List.mem_map.1 (show f ∈ (flats m B).map Nat.cast from hf)
  obtain ⟨g1, g2⟩ := mem_flats.1 hg
  simp only [cs_len, cs_get, toNat_nat, rkL_len]
  refine gBind (R := fun o => o = cs (covers m B g)) (gFor (flats m B).length (fun k (x : List Int × Int) => x.2 = (k : Int) ∧ x.1 = cs (((flats m B).take k).filter fun y => decide (Inc g y ∧ rk m B y = rk m B g + 1))) (Nat.zero_le _) ⟨rfl, rfl⟩ ?_) fun o ho => gSome (.inr ⟨g, rfl, g1, g2, rfl, ho⟩)
  rintro k ⟨_, _⟩ hk ⟨rfl, rfl⟩
  simp only [toNat_nat]
  refine gIte (fun h1 => gChk (by omega) ?_) fun h1 => gSome (by rw [List.take_of_length_le (by omega)]; rfl)
  have hk' : k < (flats m B).length := by omega
  obtain ⟨k1, k2⟩ := mem_flats.1 (mem_getD.2 ⟨k, hk', rfl⟩)
  have etake : (flats m B).take (k + 1) = (flats m B).take k ++ [(flats m B).getD k 0] := by
    rw [List.take_add_one, List.getD_eq_getElem?_getD, List.getElem?_eq_getElem hk']; rfl
  have hle := List.length_filter_le (fun y => decide (Inc g y ∧ rk m B y = rk m B g + 1)) ((flats m B).take k)
  have htl := List.length_take_le k (flats m B)
  simp only [rkL_get m B k1, rkL_get m B g1, and_nat]
  have r1 := h.rk_size g
  have r2 := cnt_le m g
  refine gChk ⟨fun _ => by omega, fun _ => by omega, fun _ => by omega⟩ (gIte (fun q => gChk (by rw [List.length_append, cs_len]; simp only [List.length_cons, List.length_nil]; omega) (gSome ⟨hk', by simp, ?_⟩)) fun q => gSome ⟨hk', by simp, ?_⟩)
  · have : decide (Inc g ((flats m B).getD k 0) ∧ rk m B ((flats m B).getD k 0) = rk m B g + 1) = true := by
      rw [decide_eq_true_eq, ← sub_iff_and, Nat.and_comm]; omega
    show _ = cs _
    rw [etake, List.filter_append, List.filter_cons, if_pos this, cs_app]; rfl
  · have : ¬ decide (Inc g ((flats m B).getD k 0) ∧ rk m B ((flats m B).getD k 0) = rk m B g + 1) = true := by
      rw [decide_eq_true_eq, ← sub_iff_and, Nat.and_comm]; omega
    show _ = cs _
    rw [etake, List.filter_append, List.filter_cons, if_neg this]; simp

section
variable {m : Nat} {B : List Nat} (h : Mat m B)
include h
theorem Mat.flat_grow {a b : Nat} (hb : b < 2 ^ m) (ha : Flat m B a) (hab : Inc a b) (hr : rk m B b ≤ rk m B a) : b = a := by
  refine Inc.antisymm (fun i hi => ?_) hab
  cases hq : a.testBit i with
  | true => rfl
  | false =>
    exfalso
    have h1 := ha i (bit_lt hb hi) hq
    have h2 := h.rk_mono (s := a ||| 2 ^ i) (t := b) (inc_or hab (inc_pow hi))
    have h3 := h.rk_mono (inc_or_l a (2 ^ i))
    omega
theorem Mat.covers_meet {f x y : Nat} (hf : Flat m B f) (hx : x ∈ covers m B f) (hy : y ∈ covers m B f) (hne : x ≠ y) : x &&& y = f := by
  obtain ⟨x1, x2, x3, x4⟩ := mem_covers.1 hx
  obtain ⟨y1, y2, y3, y4⟩ := mem_covers.1 hy
  have hz := h.flat_and x2 y2
  have hfz : Inc f (x &&& y) := inc_and x3 y3
  rcases Nat.lt_or_ge (rk m B f) (rk m B (x &&& y)) with q | q
  · exfalso
    have e1 := h.flat_grow x1 hz (inc_and_l x y) (by omega)
    have e2 := h.flat_grow y1 hz (inc_and_r x y) (by omega)
    exact hne (by rw [e1, ← e2])
  · exact h.flat_grow (and_lt x1) hf hfz q
theorem Mat.covers_all {f i : Nat} (hfm : f < 2 ^ m) (hf : Flat m B f) (hi : i < m) (hb : f.testBit i = false) : ∃ x, x ∈ covers m B f ∧ x.testBit i = true := by
  obtain ⟨c, hc⟩ := h.cl_exists (s := f ||| 2 ^ i) (or_lt hfm (pow_lt hi))
  have h1 := h.cl_rk (or_lt hfm (pow_lt hi)) hc
  have h2 := h.cl_flat (or_lt hfm (pow_lt hi)) hc
  have h3 := h.cl_inc (or_lt hfm (pow_lt hi)) hc
  have h4 := hf i hi hb
  have h5 := h.rk_step f hi
  have h6 := h.rk_mono (inc_or_l f (2 ^ i))
  exact ⟨c, mem_covers.2 ⟨hc.1, h2, (inc_or_l _ _).trans h3, by omega⟩, h3 i (by rw [Nat.testBit_or, testBit_pow]; simp)⟩
end

set_option maxHeartbeats 1000000 in
theorem rotakeep_FlatsMobius_law (n : Int) (l : List Int) (f : Int) (hl : l.length ≤ 9223372036854775807) : rotakeep_FlatsMobius n l f = some true := by
  refine Gets.eq ?_
  unfold rotakeep_FlatsMobius
  refine gBindE two_eq (gBindE chains_two (gIte (fun q => absurd q (by simp)) fun _ => ?_))
  obtain ⟨c, hc, hs⟩ := axioms_Check_spec n l hl
  rcases hs with ⟨rfl, m, B, rfl, rfl, hM⟩ | ⟨h0, _⟩
  rotate_left
  · refine gBindE (Flats_bad hc h0) (gBindE (a := ([], c)) (by unfold flats_Mobius; rw [flats_of_bad hc h0, Option.bind_some, if_pos h0]) (gIte (fun _ => gSome (by simp)) fun q => absurd h0 q))
  have hB : B.length ≤ 9223372036854775807 := by simpa using hl
  have h8 := hM.m8
  have h256 := pow_le8 h8
  have hpos : 0 < 2 ^ m := Nat.pow_pos (by omega)
  have hF : Fam m (flats m B) := filter_fam h8 _
  have hsub : (flats m B).Sublist (List.range (2 ^ m)) := List.filter_sublist
  have hlen := hF.len
  have hMob : flats_Mobius m (cs B) = some (mobL (flats m B) (flats m B).length, 0) := by
    unfold flats_Mobius
    rw [flats_of_ok hM, Option.bind_some, if_neg (by simp), mobius_ok hF hsub]; rfl
  refine gBindE (Flats_ok hM hB) (gBindE hMob (gIte (fun q => absurd rfl q) fun _ => ?_))
  simp only [cs_len, mobL_len, cs_get]
  refine gIte (fun q => absurd q (by simp)) fun _ => ?_
  refine gBind (R := fun z => match z with | .inl _ => True | .inr r => False) (gFor (flats m B).length (fun k v => v = (k : Int)) (Nat.zero_le _) rfl ?_) ?_
  · rintro j _ hj rfl
    simp only [toNat_nat]
    refine gIte (fun h1 => gChk (by omega) ?_) fun h1 => gSome trivial
    have hj' : j < (flats m B).length := by omega
    refine gBind (R := fun v => v = if j = 0 then 1 else 0) (gFor (flats m B).length (fun k (x : Int × Int) => x.2 = (k : Int) ∧ x.1 = sumN k (fun i => if Inc ((flats m B).getD i 0) ((flats m B).getD j 0) then mob (flats m B) i else 0)) (Nat.zero_le _) ⟨rfl, rfl⟩ ?_) ?_
    · rintro k ⟨_, _⟩ hk ⟨rfl, rfl⟩
      simp only [toNat_nat]
      refine gIte (fun h2 => gChk (by omega) ?_) fun h2 => gSome ?_
      · have hk' : k < (flats m B).length := by omega
        rw [rotaref_Within_nat]
        simp only [Option.bind_some, decide_eq_true_eq, mobL_get _ hk']
        have b1 := hF.part_small hsub ((flats m B).getD j 0) (i := k) (by omega)
        have b2 := hF.mob_small hsub hk'
        refine gIte (fun h3 => gChk (by omega) (gSome ⟨hk', by simp, ?_⟩)) fun h3 => gSome ⟨hk', by simp, ?_⟩
        · simp only [sumN, if_pos h3]
        · simp only [sumN, if_neg h3, Int.add_zero]
      · have : k = (flats m B).length := by omega
        subst this
        exact hF.weisner hj'
    · rintro v rfl
      refine gChk (by omega) (gIte (fun q => ?_) fun _ => gSome ⟨hj', by simp⟩)
      exfalso
      by_cases e : j = 0
      · subst e
        simp at q
      · have hne : (flats m B).getD 0 0 < (flats m B).getD j 0 := hF.rise 0 j (by omega) hj'
        simp only [if_neg e] at q
        rcases q with q | q
        · apply q
          constructor
          · intro e2; omega
          · intro e2; omega
        · omega
  · rintro (u | rr) hz
    rotate_left
    · exact hz.elim
    refine gChk (by omega) (gBind (R := fun o => o = mobL (flats m B) (flats m B).length) (gFor (flats m B).length (fun k (x : List Int × Int) => x.2 = (k : Int) ∧ MB (flats m B) k 0 x.1) (Nat.zero_le _) ⟨rfl, by rw [toNat_nat]; exact MB.start _⟩ ?_) ?_)
    · rintro k ⟨out, _⟩ hk ⟨rfl, hmb⟩
      simp only at hmb ⊢
      have hol := hmb.len
      refine gIte (fun h1 => gChk (by omega) ?_) fun h1 => gSome (by have e : k = (flats m B).length := (by omega); subst e; exact hmb.done)
      have hk' : k < (flats m B).length := by omega
      refine gJoin (R := fun o => MB (flats m B) k (if k = 0 then 1 else 0) o) (fun o ho => ?_) fun j hj => ?_
      · simp only [toNat_nat]
        refine gBind (R := fun o => MB (flats m B) k (mob (flats m B) k) o) (gFor k (fun j (x : List Int × Int) => x.2 = (j : Int) ∧ MB (flats m B) k (if k = 0 then 1 else - sumN j (fun i => if Inc ((flats m B).getD i 0) ((flats m B).getD k 0) then mob (flats m B) i else 0)) x.1) (Nat.zero_le _) ⟨rfl, by simpa [sumN] using ho⟩ ?_) fun o ho => gSome ⟨hk', by simp, ho.next hk'⟩
        rintro j ⟨o2, _⟩ hj ⟨rfl, hm2⟩
        simp only at hm2 ⊢
        have ho2 := hm2.len
        refine gIte (fun h3 => gChk (by omega) ?_) fun h3 => gSome ?_
        · have hj' : j < k := by omega
          have hk0 : k ≠ 0 := by omega
          rw [if_neg hk0] at hm2
          rw [if_neg hk0]
          simp only [toNat_nat]
          rw [rotaref_Within_nat]
          simp only [Option.bind_some, decide_eq_true_eq]
          have b1 := hF.part_small hsub ((flats m B).getD k 0) (i := j) (by omega)
          have b2 := hF.mob_small hsub (i := j) (by omega)
          have e1 := hm2.at_ hk'
          have e2 := hm2.lo j hj'
          refine gIte (fun hin => gChk (by omega) (gSome ⟨hj', by simp, ?_⟩)) fun hin => gSome ⟨hj', by simp, ?_⟩
          · show MB (flats m B) k _ (o2.set k _)
            rw [e1, e2]
            simp only [sumN, if_pos hin]
            rw [show -(sumN j (fun i => if Inc ((flats m B).getD i 0) ((flats m B).getD k 0) then mob (flats m B) i else 0) + mob (flats m B) j) = -sumN j (fun i => if Inc ((flats m B).getD i 0) ((flats m B).getD k 0) then mob (flats m B) i else 0) - mob (flats m B) j by omega]
            exact hm2.set hk' _
          · simp only [sumN, if_neg hin, Int.add_zero]
            exact hm2
        · have : j = k := by omega
          subst this
          rw [mob_eq]; exact hm2
      · refine gIte (fun h2 => gChk (by omega) ?_) fun h2 => hj _ ?_
        · have h0 : k = 0 := by omega
          subst h0
          exact hj _ (hmb.set hk' 1)
        · rw [if_neg (by omega)]; exact hmb
    · rintro o rfl
      refine gBindE (Same64_self _) (gIte (fun q => absurd rfl q) fun _ => ?_)
      refine gBind (Covers_ok hM f) ?_
      rintro ⟨r1, r2⟩ (⟨q1, q2⟩ | ⟨g, rfl, g1, g2, q1, q2⟩)
      · simp only at q1 q2
        subst q2
        exact gIte (fun _ => gSome (by simp)) fun q => absurd q1 q
      · simp only at q1 q2
        subst q1 q2
        refine gIte (fun q => absurd rfl q) fun _ => ?_
        simp only [cs_len, cs_get]
        have hcf : Fam m (covers m B g) := by
          have : covers m B g = (List.range (2 ^ m)).filter fun y => decide (Inc g y ∧ rk m B y = rk m B g + 1) && decide (Flat m B y) := by
            unfold covers flats; rw [List.filter_filter]
          rw [this]; exact filter_fam h8 _
        have hcl := hcf.len
        refine gBind (R := fun z => match z with | .inl r => r = ((2 ^ m - 1 : Nat) : Int) | .inr r => False) (gFor (covers m B g).length (fun k (x : Int × Int) => x.2 = (k : Int) ∧ ∃ v : Nat, x.1 = (v : Int) ∧ v < 2 ^ m ∧ ∀ i, v.testBit i = true ↔ g.testBit i = true ∨ ∃ j, j < k ∧ ((covers m B g).getD j 0).testBit i = true) (Nat.zero_le _) ⟨rfl, g, rfl, g1, fun i => ⟨.inl, fun h => h.elim id fun ⟨j, hj, _⟩ => absurd hj (Nat.not_lt_zero j)⟩⟩ ?_) ?_
        · rintro k ⟨_, _⟩ hk ⟨rfl, v, rfl, v1, v2⟩
          simp only [toNat_nat]
          refine gIte (fun h1 => gChk (by omega) ?_) fun h1 => gSome ?_
          · have hk' : k < (covers m B g).length := by omega
            have hmem := mem_getD.2 ⟨k, hk', rfl⟩
            obtain ⟨c1, c2, c3, c4⟩ := mem_covers.1 hmem
            rw [and_nat]
            have hand : (covers m B g).getD k 0 &&& v = g := by
              apply Nat.eq_of_testBit_eq; intro i
              rw [Bool.eq_iff_iff, Nat.testBit_and, Bool.and_eq_true, v2 i]
              constructor
              · rintro ⟨e1, e2 | ⟨j, hj, e2⟩⟩
                · exact e2
                · have := hM.covers_meet g2 hmem (mem_getD.2 ⟨j, by omega, rfl⟩) (fun e => by have := hcf.rise j k hj hk'; omega)
                  rw [← this, Nat.testBit_and, e1, e2]; rfl
              · intro e
                exact ⟨c3 i e, .inl e⟩
            rw [hand]
            simp only [ne_eq, not_true_eq_false, not_false_eq_true, if_true, false_or]
            rw [slices_Contains_spec _ _ (by simp; omega)]
            simp only [Option.bind_some]
            refine gIte (fun q => ?_) fun _ => ?_
            · exact absurd (decide_eq_true ((cs_mem _ _).2 (mem_flats.2 ⟨c1, c2⟩))) q
            · rw [or_nat]
              refine gSome ⟨hk', by simp, _, rfl, or_lt v1 c1, fun i => ?_⟩
              rw [Nat.testBit_or, Bool.or_eq_true, v2 i]
              constructor
              · rintro ((e | ⟨j, hj, e⟩) | e)
                · exact .inl e
                · exact .inr ⟨j, by omega, e⟩
                · exact .inr ⟨k, Nat.lt_succ_self k, e⟩
              · rintro (e | ⟨j, hj, e⟩)
                · exact .inl (.inl e)
                · rcases Nat.lt_succ_iff_lt_or_eq.1 hj with d | rfl
                  · exact .inl (.inr ⟨j, d, e⟩)
                  · exact .inr e
          · congr 1
            have hkl : k = (covers m B g).length := by omega
            refine set_ext v1 (by omega) fun i hi => ?_
            rw [Nat.testBit_two_pow_sub_one, decide_eq_true hi, v2 i]
            cases hb : g.testBit i with
            | true => exact .inl rfl
            | false =>
              obtain ⟨x, x1, x2⟩ := hM.covers_all g1 g2 hi hb
              obtain ⟨j, j1, rfl⟩ := mem_getD.1 x1
              exact .inr ⟨j, by omega, x2⟩
        · rintro (r | rr) hz2
          · have : r = ((2 ^ m - 1 : Nat) : Int) := hz2
            subst this
            rw [rotaref_All_nat h8]
            exact gSome (by simp)
          · exact hz2.elim
end Go.SH
