/-
  The statement ComplexEuler as a plain law: the law itself. Conditions: lists are no longer than 2^63 - 1.
-/
import Derived.Test.YtaajhfhbonmaiaaLCd
set_option linter.unusedSimpArgs false
set_option linter.unusedVariables false
namespace Go.SH
open Go Go.AX

theorem SameC (l : List Int) : rotalaw_Same_int l l = some true := by
  refine Gets.eq ?_
  unfold rotalaw_Same_int
  refine gIte (fun q => absurd rfl q) fun _ => gBind (R := fun z => match z with | .inl _ => True | .inr r => False) (gFor l.length (fun k v => v = (k : Int)) (Nat.zero_le _) rfl ?_) ?_
  · rintro k _ hk rfl
    exact gIte (fun h1 => gChk (by omega) (gIte (fun q => absurd rfl q) fun _ => gSome ⟨by omega, by simp⟩)) fun _ => gSome trivial
  · rintro (u | rr) hz
    · exact gSome rfl
    · exact hz.elim
theorem Faces_ok {m : Nat} {L : List Nat} (h : Cx m L) : complex_Faces m (cs L) = some (cs (facesL m L), 0) := by
  unfold complex_Faces
  rw [h.check, Option.bind_some, if_neg (by simp), faces_ok h.toFam]; rfl
theorem cx12 : Cx 2 [1, 2] := ⟨⟨by omega, by decide, fun i j hij hj => by
  have : j = 1 := by simp at hj; omega
  subst this
  have : i = 0 := by omega
  subst this; decide⟩, by simp, by decide⟩
theorem h12 : hL 2 [1, 2] = [1, 1] := by decide +kernel
theorem H12 : complex_H 2 [1, 2] = some ([1, 1], 0) := by
  have := H_ok cx12
  rw [h12] at this
  exact this

theorem rotakeep_ComplexEuler_law (n : Int) (l : List Int) (a : Int) (hl : l.length ≤ 9223372036854775807) : rotakeep_ComplexEuler n l a = some true := by
  refine Gets.eq ?_
  unfold rotakeep_ComplexEuler
  refine gBindE H12 (gIte (fun _ => ?_) fun q => absurd (by simp) q)
  refine gBindE (SameC _) (gIte (fun q => absurd rfl q) fun _ => ?_)
  obtain ⟨c, hc, hs⟩ := complex_Check_spec n l hl
  rcases hs with ⟨rfl, m, L, rfl, rfl, h⟩ | ⟨h0, _⟩
  rotate_left
  · have eF : complex_F n l = some ([], c) := by unfold complex_F; rw [hc, Option.bind_some, if_pos h0]
    have eH : complex_H n l = some ([], c) := by unfold complex_H; rw [eF, Option.bind_some, if_pos h0]
    have eE : complex_Euler n l = some (0, c) := by unfold complex_Euler; rw [eF, Option.bind_some, if_pos h0]
    exact gBindE eF (gBindE eH (gBindE eE (gIte (fun _ => gChk (by simp) (gSome (by simp))) fun q => absurd h0 q)))
  have h8 := h.m8
  have h256 := pow_le8 h8
  have hd := dim_le m L
  have hLl := h.len
  refine gBindE (F_ok h) (gBindE (H_ok h) (gBindE (Euler_ok h) (gIte (fun q => absurd rfl q) fun _ => ?_)))
  have hb : ∀ k, k < dimL m L + 1 → -161280 ≤ hN m L k ∧ hN m L k ≤ 161280 := fun k hk => by
    have b2 := hpart_le h8 L (show k ≤ dimL m L by omega) (Nat.le_refl (k + 1))
    have b3 : ((k + 1 : Nat) : Int) * 17920 ≤ 9 * 17920 := Int.mul_le_mul_of_nonneg_right (by omega) (by omega)
    unfold hN; omega
  refine gBind (R := fun o => o = ((fN m L (dimL m L) : Nat) : Int)) (gFor (dimL m L + 1) (fun k (x : Int × Int) => x.2 = (k : Int) ∧ x.1 = sumN k (hN m L)) (Nat.zero_le _) ⟨rfl, rfl⟩ ?_) ?_
  · rintro k ⟨_, _⟩ hk ⟨rfl, rfl⟩
    simp only [hL_len, toNat_nat]
    refine gIte (fun h1 => gChk (by omega) ?_) fun h1 => gSome (by have e : k = dimL m L + 1 := (by omega); subst e; exact h_sum h8 L)
    have hk' : k < dimL m L + 1 := by omega
    simp only [hL_get hk']
    have b1 := sumN_abs (n := k) (g := hN m L) (c := 161280) fun i hi => hb i (by omega)
    have b2 := hb k hk'
    have b3 : (k : Int) * 161280 ≤ 9 * 161280 := Int.mul_le_mul_of_nonneg_right (by omega) (by omega)
    exact gChk (by omega) (gSome ⟨hk', by simp, rfl⟩)
  rintro o rfl
  have ed : (((dimL m L + 1 : Nat)) : Int) - 1 = ((dimL m L : Nat) : Int) := by omega
  have e2 : ((dimL m L : Nat) : Int).tmod 2 = ((dimL m L % 2 : Nat) : Int) := tmod_two _
  have q0 : (hL m L).getD 0 0 = 1 := by rw [hL_get (by omega), h_zero, h.f_zero]; rfl
  have qd : (hL m L).getD (dimL m L) 0 = eul m L * sg (dimL m L) := by rw [hL_get (by omega), h_last h8]
  have be := eul_part h8 L (dimL m L + 1)
  have be2 : ((dimL m L + 1 : Nat) : Int) * 256 ≤ 9 * 256 := Int.mul_le_mul_of_nonneg_right (by omega) (by omega)
  have be3 : -2304 ≤ eul m L ∧ eul m L ≤ 2304 := by unfold eul; omega
  have bs : ∀ k, -2304 ≤ eul m L * sg k ∧ eul m L * sg k ≤ 2304 := fun k => by
    rcases sg_cases k with e | e <;> rw [e] <;> omega
  have bd := bs (dimL m L)
  have bsd := sg_cases (dimL m L)
  simp only [cs_len, fL_len, hL_len, ed, cs_get, toNat_nat, sg_tmod, fL_get (Nat.lt_succ_self (dimL m L)), q0, qd]
  refine gChk (by omega) (gChk ⟨fun _ => by omega, fun _ => by omega, fun _ => by omega, fun _ => by omega, fun _ => by omega, fun _ => by omega⟩ (gIte (fun q => absurd q (by simp)) fun _ => ?_))
  obtain ⟨y5, e1, hy5⟩ : ∃ y5, complex_Dual m (cs L) = some y5 ∧ (y5.2 ≠ 0 ∨ ∃ K, y5 = (cs (mostL K), 0) ∧ Fam m K ∧ K ≠ [] ∧ ∀ s, s ∈ K ↔ s < 2 ^ m ∧ ¬ Face L (cpl m s)) := by
    rcases CDual_ok h with ⟨e, _⟩ | ⟨K, e, h1, h2, h3⟩
    · exact ⟨_, e, .inl (by simp)⟩
    · exact ⟨_, e, .inr ⟨K, rfl, h1, h2, h3⟩⟩
  refine gBindE e1 (gJoin (R := fun _ => True) (fun _ _ => ?_) fun j hj => ?_)
  · rcases CLink_ok h a with e | ⟨s, K, rfl, e, hK, hF⟩
    · exact gBindE e (gIte (fun _ => gSome (by simp)) fun q => absurd (by simp) q)
    · refine gBindE e (gIte (fun q => absurd rfl q) fun _ => gBindE hK.check (gIte (fun q => absurd rfl q) fun _ => gBindE (Faces_ok h) (gBindE (Faces_ok hK) ?_)))
      have hfl := (faces_fam h8 L).len
      refine gBind (R := fun z => match z with | .inl _ => True | .inr r => False) (gFor (facesL m K).length (fun k v => v = (k : Int)) (Nat.zero_le _) rfl ?_) ?_
      · rintro k _ hk rfl
        simp only [cs_len, cs_get, toNat_nat, and_nat, or_nat]
        refine gIte (fun h1 => gChk (by omega) ?_) fun h1 => gSome trivial
        have hk' : k < (facesL m K).length := by omega
        obtain ⟨t1, t2⟩ := mem_facesL.1 (mem_getD.2 ⟨k, hk', rfl⟩)
        obtain ⟨t3, t4⟩ := (hF _).1 t2
        have t5 : (facesL m K).getD k 0 ||| s < 2 ^ m := let ⟨f, f1, f2⟩ := t4; f2.lt (h.lt f f1)
        rw [t3]
        refine gBindE (a := true) (by
          rw [if_pos (by simp), slices_Contains_spec _ _ (by simp; omega)]
          congr 1
          rw [decide_eq_true_eq, cs_mem, mem_facesL]
          exact ⟨t5, t4⟩) (gIte (fun q => absurd q (by simp)) fun _ => gSome ⟨hk', by simp⟩)
      · rintro (u | rr) hz
        · exact gSome (by simp)
        · exact hz.elim
  · rcases hy5 with hne | ⟨K, rfl, hK, hne, hm⟩
    · exact gIte (fun q => absurd q hne) fun _ => hj () trivial
    refine gIte (fun _ => ?_) fun q => absurd rfl q
    have hA : Cx m (mostL K) := most_cx hK hne
    have fA : ∀ s, s < 2 ^ m → (Face (mostL K) s ↔ ¬ Face L (cpl m s)) := fun s hs => by
      rw [most_face hK]
      constructor
      · rintro ⟨t, h1, h2⟩ hf
        exact ((hm t).1 h1).2 (hf.mono (cpl_mono h2))
      · intro hf; exact ⟨s, (hm s).2 ⟨hs, hf⟩, Inc.refl s⟩
    obtain ⟨f, hf⟩ : ∃ f, f ∈ L := List.exists_mem_of_ne_nil L h.ne
    have hfm := h.lt f hf
    have m0 : m ≠ 0 := fun e => by
      subst e
      obtain ⟨t, ht⟩ := List.exists_mem_of_ne_nil K hne
      refine ((hm t).1 ht).2 ⟨f, hf, ?_⟩
      have : cpl 0 t = 0 := by have := cpl_lt 0 t; omega
      rw [this]; exact inc_zero f
    rcases CDual_ok hA with ⟨_, hall⟩ | ⟨K2, e2', hK2, hne2, hm2⟩
    · exfalso
      have := (fA _ (cpl_lt m f)).1 (hall _ (cpl_lt m f))
      rw [cpl_cpl hfm] at this
      exact this ⟨f, hf, Inc.refl f⟩
    have hk2 : ∀ s, s ∈ K2 ↔ s < 2 ^ m ∧ Face L s := fun s => by
      rw [hm2]
      constructor
      · rintro ⟨h1, h2⟩
        rw [fA _ (cpl_lt m s), cpl_cpl h1] at h2
        exact ⟨h1, Classical.not_not.1 h2⟩
      · rintro ⟨h1, h2⟩
        refine ⟨h1, fun q => ?_⟩
        rw [fA _ (cpl_lt m s), cpl_cpl h1] at q
        exact q h2
    have hmost : mostL K2 = L := (fam_sub hK2 _ : Fam m (mostL K2)).ext h.toFam fun s => by
      show s ∈ mostL K2 ↔ _
      rw [mem_mostL]
      constructor
      · rintro ⟨h1, h2⟩
        obtain ⟨g, g1, g2⟩ := ((hk2 s).1 h1).2
        have := h2 g ((hk2 g).2 ⟨h.lt g g1, g, g1, Inc.refl g⟩) g2
        rw [← this]; exact g1
      · intro hsL
        refine ⟨(hk2 s).2 ⟨h.lt s hsL, s, hsL, Inc.refl s⟩, fun t ht hi => ?_⟩
        obtain ⟨g, g1, g2⟩ := ((hk2 t).1 ht).2
        have := h.anti s hsL g g1 (hi.trans g2)
        subst this
        exact Inc.antisymm g2 hi
    rw [hmost] at e2'
    have hE := eul_dual h8 m0 fA
    have b5 := bs m
    have e3 : (m : Int).tmod 2 = ((m % 2 : Nat) : Int) := tmod_two _
    have bsm := sg_cases m
    have e4 : eul m L * sg m = sg m * eul m L := Int.mul_comm _ _
    refine gBindE e2' (gBindE (Euler_ok hA) (gBindE (a := true) (by rw [if_pos (by simp)]; exact SameC _) ?_))
    simp only [sg_tmod]
    exact gChk ⟨fun _ => by omega, fun _ => by omega, fun _ => by omega, fun _ => by omega⟩ (gIte (fun q => absurd q (by simp; omega)) fun _ => hj () trivial)
end Go.SH
