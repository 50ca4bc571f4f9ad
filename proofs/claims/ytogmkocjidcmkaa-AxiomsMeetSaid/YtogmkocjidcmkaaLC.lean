/-
  Flats meet in flats, and each is where hyperplanes meet; the statement AxiomsMeet as a plain law. Conditions: lists are no longer than 2^63 - 1.
-/
import Derived.Test.YtogmkocjidcmkaaLB
import Derived.Test.YtogmkocjidcmkaaSkAxiomsMeet
set_option linter.unusedSimpArgs false
set_option linter.unusedVariables false
namespace Go.SH
open Go Go.AX

theorem Flats_bad {n : Int} {l : List Int} {c : Int} (h : axioms_Check n l = some c) (h0 : c ≠ 0) : axioms_Flats n l = some ([], c) := by
  unfold axioms_Flats axioms_family
  rw [h]; simp [h0]
theorem Hyperplanes_bad {n : Int} {l : List Int} {c : Int} (h : axioms_Check n l = some c) (h0 : c ≠ 0) : axioms_Hyperplanes n l = some ([], c) := by
  unfold axioms_Hyperplanes axioms_family
  rw [h]; simp [h0]
def flats (m : Nat) (B : List Nat) : List Nat := (List.range (2 ^ m)).filter fun s => Flat m B s
def hypers (m : Nat) (B : List Nat) : List Nat := (List.range (2 ^ m)).filter fun s => Hyper m B s
theorem mem_flats {m : Nat} {B : List Nat} {s : Nat} : s ∈ flats m B ↔ s < 2 ^ m ∧ Flat m B s := by simp [flats]
theorem mem_hypers {m : Nat} {B : List Nat} {s : Nat} : s ∈ hypers m B ↔ s < 2 ^ m ∧ Hyper m B s := by simp [hypers]
theorem Flats_ok {m : Nat} {B : List Nat} (h : Mat m B) (hl : B.length ≤ 9223372036854775807) : axioms_Flats m (cs B) = some (cs (flats m B), 0) := by
  refine Gets.eq ((axioms_Flats_spec m (cs B) (by simpa using hl)).mono fun r hr => ?_)
  rcases hr with ⟨h1, m', B', q1, q2, _, q3⟩ | ⟨_, _, q⟩
  · have : m' = m := by omega
    subst this
    rw [← cs_inj q2] at q3
    exact Prod.ext q3 h1
  · exact absurd ⟨m, B, rfl, rfl, h⟩ q
theorem Hyperplanes_ok {m : Nat} {B : List Nat} (h : Mat m B) (hl : B.length ≤ 9223372036854775807) : axioms_Hyperplanes m (cs B) = some (cs (hypers m B), 0) := by
  refine Gets.eq ((axioms_Hyperplanes_spec m (cs B) (by simpa using hl)).mono fun r hr => ?_)
  rcases hr with ⟨h1, m', B', q1, q2, _, q3⟩ | ⟨_, _, q⟩
  · have : m' = m := by omega
    subst this
    rw [← cs_inj q2] at q3
    exact Prod.ext q3 h1
  · exact absurd ⟨m, B, rfl, rfl, h⟩ q

section
variable {m : Nat} {B : List Nat} (h : Mat m B)
include h
theorem Mat.flat_and {a b : Nat} (ha : Flat m B a) (hb : Flat m B b) : Flat m B (a &&& b) := by
  intro i hi hf e
  rw [Nat.testBit_and, Bool.and_eq_false_iff] at hf
  rcases hf with q | q
  · exact ha i hi q (h.rk_stay (inc_and_l a b) e)
  · exact hb i hi q (h.rk_stay (inc_and_r a b) e)
theorem Mat.cl_exists {s : Nat} (hs : s < 2 ^ m) : ∃ c, IsCl m B s c := by
  obtain ⟨r, _, _, c, _, hc⟩ := axioms_Closure_ok h hs
  exact ⟨c, hc⟩
theorem Mat.flat_out {F x : Nat} (hF : F < 2 ^ m) (hf : Flat m B F) (hx : x < m) (hxF : F.testBit x = false) : ∃ H, H < 2 ^ m ∧ Hyper m B H ∧ Inc F H ∧ H.testBit x = false := by
  obtain ⟨I, hI, hIF, hIc⟩ := h.rk_ind (s := F)
  have hne := hf x hx hxF
  have hmono := h.rk_mono (inc_or_l F (2 ^ x))
  obtain ⟨J0, hJ0, hIJ0, hJ0u, hJ0c⟩ := h.extend (u := F ||| 2 ^ x) _ I (Nat.le_refl _) hI (hIF.trans (inc_or_l _ _))
  have hxJ0 : J0.testBit x = true := by
    cases hq : J0.testBit x with
    | true => rfl
    | false =>
      exfalso
      have : Inc J0 F := fun i hi => by
        have := hJ0u i hi
        rw [Nat.testBit_or, testBit_pow, Bool.or_eq_true] at this
        rcases this with q | q
        · exact q
        · have : x = i := of_decide_eq_true q
          subst this; rw [hq] at hi; cases hi
      have := h.ind_le hJ0 this
      omega
  have hfull : ∀ s, s < 2 ^ m → Inc s (2 ^ m - 1) := fun s hs i hi => by
    have := bit_lt hs hi
    rw [Nat.testBit_two_pow_sub_one]; simpa using this
  obtain ⟨J, hJ, hJ0J, _, hJc⟩ := h.extend (u := 2 ^ m - 1) _ J0 (Nat.le_refl _) hJ0 (hfull _ (h.ind_lt hJ0))
  have hJm := h.ind_lt hJ
  have hxJ := hJ0J x hxJ0
  have hJ'm : dif J (2 ^ x) < 2 ^ m := dif_lt hJm
  have hJ' : Ind B (dif J (2 ^ x)) := hJ.mono (inc_dif _ _)
  have c1 := cnt_dif hJm hxJ
  have c2 := (h.ind_iff hJ'm).1 hJ'
  have c3 := (h.ind_iff hJm).1 hJ
  obtain ⟨H, hH⟩ := h.cl_exists hJ'm
  have hHr := h.cl_rk hJ'm hH
  have hcI := h.cl_inc hJ'm hH
  refine ⟨H, hH.1, ⟨by omega, fun i hi hfi e => ?_⟩, fun i hi => ?_, ?_⟩
  · have h1 := h.rk_mono (show Inc (dif J (2 ^ x) ||| 2 ^ i) (H ||| 2 ^ i) from inc_or (hcI.trans (inc_or_l _ _)) (inc_or_r _ _))
    have h2 := h.rk_mono (inc_or_l (dif J (2 ^ x)) (2 ^ i))
    have := (hH.2 i hi).2 (.inr (by omega))
    rw [hfi] at this; cases this
  · have him := bit_lt hF hi
    have hIJ : Inc I (dif J (2 ^ x)) := fun j hj => by
      rw [testBit_dif, (hIJ0.trans hJ0J) j hj, testBit_pow]
      have : x ≠ j := fun q => by subst q; rw [hIF _ hj] at hxF; cases hxF
      simp [this]
    refine (hH.2 i him).2 (.inr (h.rk_stay hIJ ?_))
    have h1 := h.rk_mono (show Inc (I ||| 2 ^ i) F from inc_or hIF (inc_pow hi))
    have h2 := h.rk_mono (inc_or_l I (2 ^ i))
    have h3 := h.ind_le hI (Inc.refl I)
    omega
  · cases hq : H.testBit x with
    | false => rfl
    | true =>
      exfalso
      rcases (hH.2 x hx).1 hq with q | q
      · rw [testBit_dif, testBit_pow] at q; simp at q
      · rw [dif_or hxJ] at q; omega
end

theorem flats_two : (flats 4 twoB).length = 6 := by decide +kernel

theorem rotakeep_AxiomsMeet_law (n : Int) (l : List Int) (hl : l.length ≤ 9223372036854775807) : rotakeep_AxiomsMeet n l = some true := by
  refine Gets.eq ?_
  unfold rotakeep_AxiomsMeet
  refine gBindE two_eq (gBindE (Flats_ok (m := 4) mat_two (by decide)) (gIte (fun q => ?_) fun _ => ?_))
  · exfalso
    simp only [cs_len, flats_two] at q
    omega
  obtain ⟨c, hc, hs⟩ := axioms_Check_spec n l hl
  rcases hs with ⟨rfl, m, B, rfl, rfl, hM⟩ | ⟨h0, _⟩
  · have hB : B.length ≤ 9223372036854775807 := by simpa using hl
    have h8 := hM.m8
    have h256 := pow_le8 h8
    have hpos : 0 < 2 ^ m := Nat.pow_pos (by omega)
    refine gBindE (Flats_ok hM hB) (gBindE (Hyperplanes_ok hM hB) (gIte (fun q => absurd rfl q) fun _ => ?_))
    have fF : Fam m (flats m B) := filter_fam h8 _
    have fH : Fam m (hypers m B) := filter_fam h8 _
    have lF := fF.len
    have lH := fH.len
    refine gBind (R := fun z => match z with | .inl _ => True | .inr r => False) (gFor (flats m B).length (fun k v => v = (k : Int)) (Nat.zero_le _) rfl ?_) ?_
    · rintro k _ hk rfl
      simp only [cs_len, cs_get, toNat_nat]
      refine gIte (fun h1 => gChk (by omega) ?_) fun h1 => gSome trivial
      have hk' : k < (flats m B).length := by omega
      obtain ⟨hk1, hk2⟩ := mem_flats.1 (mem_getD.2 ⟨k, hk', rfl⟩)
      refine gBindE (rotaref_All_nat h8) ?_
      generalize hF : (flats m B).getD k 0 = F at *
      refine gBind (R := fun z => match z with | .inl _ => True | .inr r => False) (gFor (flats m B).length (fun j v => v = (j : Int)) (Nat.zero_le _) rfl ?_) ?_
      · rintro j _ hj rfl
        simp only [cs_len, cs_get, toNat_nat]
        refine gIte (fun h1 => gChk (by omega) ?_) fun h1 => gSome trivial
        have hj' : j < (flats m B).length := by omega
        obtain ⟨hj1, hj2⟩ := mem_flats.1 (mem_getD.2 ⟨j, hj', rfl⟩)
        rw [and_nat]
        refine gBindE (slices_Contains_spec _ _ (by simp; omega)) (gIte (fun q => ?_) fun _ => gSome ⟨hj', by simp⟩)
        exfalso
        refine q (decide_eq_true ((cs_mem _ _).2 (mem_flats.2 ⟨and_lt hk1, hM.flat_and hk2 hj2⟩)))
      · rintro (u | rr) hz
        · refine gBind (R := fun r : Int => r = (F : Nat)) ((gFor (hypers m B).length (fun j (s : Int × Int) => s.2 = (j : Int) ∧ ∃ v : Nat, s.1 = (v : Int) ∧ v < 2 ^ m ∧ Inc F v ∧ ∀ i, i < j → Inc F ((hypers m B).getD i 0) → Inc v ((hypers m B).getD i 0)) (Nat.zero_le _) ⟨rfl, 2 ^ m - 1, rfl, by omega, ?_, fun i hi => absurd hi (Nat.not_lt_zero i)⟩ ?_)) ?_
          · intro i hi
            have := bit_lt hk1 hi
            rw [Nat.testBit_two_pow_sub_one]; simpa using this
          · rintro j ⟨_, _⟩ hj ⟨rfl, v, rfl, hv1, hv2, hv3⟩
            simp only [cs_len, cs_get, toNat_nat]
            refine gIte (fun h1 => gChk (by omega) ?_) fun h1 => gSome ?_
            · have hj' : j < (hypers m B).length := by omega
              obtain ⟨hj1, hj2⟩ := mem_hypers.1 (mem_getD.2 ⟨j, hj', rfl⟩)
              refine gBindE (rotaref_Within_nat _ _) (gIte (fun q => ?_) fun q => ?_)
              · have q' : Inc F ((hypers m B).getD j 0) := of_decide_eq_true q
                refine gSome ⟨hj', by simp, v &&& (hypers m B).getD j 0, rfl, and_lt hv1, inc_and hv2 q', fun i hi hc => ?_⟩
                rcases Nat.lt_succ_iff_lt_or_eq.1 hi with c | rfl
                · exact (inc_and_l _ _).trans (hv3 i c hc)
                · exact inc_and_r _ _
              · have q' : ¬ Inc F ((hypers m B).getD j 0) := fun e => q (decide_eq_true e)
                refine gSome ⟨hj', by simp, v, rfl, hv1, hv2, fun i hi hc => ?_⟩
                rcases Nat.lt_succ_iff_lt_or_eq.1 hi with c | rfl
                · exact hv3 i c hc
                · exact absurd hc q'
            · have hjl : j = (hypers m B).length := by omega
              subst hjl
              congr 1
              refine (Inc.antisymm hv2 ?_).symm
              intro x hx
              have hxm := bit_lt hv1 hx
              cases hq : F.testBit x with
              | true => rfl
              | false =>
                obtain ⟨H, hH1, hH2, hH3, hH4⟩ := hM.flat_out hk1 hk2 hxm hq
                obtain ⟨i, hi, hHi⟩ := mem_getD.1 (mem_hypers.2 ⟨hH1, hH2⟩)
                have := hv3 i hi (by rw [hHi]; exact hH3) x hx
                rw [hHi, hH4] at this; cases this
          · rintro r rfl
            exact gIte (fun q => absurd rfl q) fun _ => gSome ⟨hk', by simp⟩
        · exact hz.elim
    · rintro (u | rr) hz
      · exact gSome (decide_eq_true rfl)
      · exact hz.elim
  · refine gBindE (Flats_bad hc h0) (gBindE (Hyperplanes_bad hc h0) (gIte (fun _ => gChk (by simp) (gSome (by simp))) fun q => absurd h0 q))
end Go.SH
