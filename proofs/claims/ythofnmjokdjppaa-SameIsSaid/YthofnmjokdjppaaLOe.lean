/-
  What is renamed is the same but for names; Canon; orbits; LAGRANGE: the statement SameIs as a plain law. Conditions: lists are no longer than 2^63 - 1.
-/
import Derived.Test.YthofnmjokdjppaaLOd
import Derived.Test.YthofnmjokdjppaaLUd
import Derived.Test.YthofnmjokdjppaaSprotaref
import Derived.Test.YthofnmjokdjppaaSkSameIs
set_option linter.unusedSimpArgs false
set_option linter.unusedVariables false
namespace Go.SH
open Go Go.AX

theorem In_nat2 (s i : Nat) : rotaref_In s i = some (s.testBit i) := by
  unfold rotaref_In
  rw [chk_pos (by omega)]
  have h1 : (s : Int) / 2 ^ ((i : Int)).toNat = ((s / 2 ^ i : Nat) : Int) := shr_nat s i
  rw [h1]
  have := Nat.testBit_eq_decide_div_mod_eq (x := s) (i := i)
  rw [this]
  congr 1
  refine decide_eq_decide.2 ?_
  rw [show (2 : Int) = ((2 : Nat) : Int) from rfl, ← Int.ofNat_tmod]; omega
theorem All_nat2 {m : Nat} (h : m ≤ 8) : rotaref_All m = some ((2 ^ m - 1 : Nat) : Int) := by
  have hp := pow_le8 h
  have h0 : 0 < 2 ^ m := Nat.pow_pos (by omega)
  unfold rotaref_All
  simp only [toNat_nat, shl_nat']
  rw [chk_pos (by omega)]
  congr 1; omega
theorem Elements_nat2 (s : Nat) : rotaref_Elements s = some (cs (els s)) := by
  refine Gets.eq ?_
  unfold rotaref_Elements
  refine gBind (R := fun o => o = cs (els s)) (gFor 8 (k0 := 0) (fun k x => x.2 = (k : Int) ∧ x.1 = cs ((List.range k).filter fun i => s.testBit i)) (by omega) ⟨rfl, rfl⟩ ?_) fun o ho => gSome ho
  rintro k ⟨_, _⟩ hk ⟨rfl, rfl⟩
  simp only
  refine gIte (fun h1 => ?_) fun h1 => gSome (by have : k = 8 := by omega
                                                 subst this; rfl)
  rw [In_nat2]
  simp only [Option.bind_some]
  have hle : ((List.range k).filter fun i => s.testBit i).length ≤ k := by
    have := List.length_filter_le (fun i => s.testBit i) (List.range k)
    simpa using this
  refine gIte (fun h2 => gChk (by simp; omega) (gSome ⟨by omega, by simp, ?_⟩)) fun h2 => gSome ⟨by omega, by simp, ?_⟩
  · rw [List.range_succ, List.filter_append, cs_app]; simp [h2]
  · rw [List.range_succ, List.filter_append]; simp [h2]
theorem Size_nat2 (s : Nat) : rotaref_Size s = some ((size s : Nat) : Int) := by
  unfold rotaref_Size
  rw [Elements_nat2]
  simp [els_len]

theorem Same_self (l : List Int) : rotalaw_Same_int l l = some true := by
  refine Gets.eq ?_
  unfold rotalaw_Same_int
  refine gIte (fun q => absurd rfl q) fun _ => ?_
  refine gBind (R := fun z => match z with | .inl _ => True | .inr r => False) (gFor l.length (fun k (x : Int) => x = (k : Int)) (Nat.zero_le _) rfl ?_) ?_
  · rintro k _ hk rfl
    exact gIte (fun h1 => gChk (by omega) (gIte (fun q => absurd rfl q) fun _ => gSome ⟨by omega, by simp⟩)) fun h1 => gSome trivial
  · rintro (u | r) hz
    · exact gSome rfl
    · exact absurd hz id
theorem SameMatroid_self (n : Int) (l : List Int) : rotalaw_SameMatroid n l n l = some true := by
  unfold rotalaw_SameMatroid
  rw [if_pos rfl, Same_self, Option.bind_some]; simp
theorem aut_uni {m k : Nat} (h8 : m ≤ 8) (hk : k ≤ m) : aut m (uniL m k) = fact m := by
  rw [← ext_all m, aut]
  refine cntP_all fun p hp => (ren_fam h8 _).ext (uniL_fam h8 k) fun s => ?_
  obtain ⟨τ, h1, h2, h3⟩ := inv_ex hp
  rw [mem_ren, mem_uniL]
  constructor
  · rintro ⟨b, hb, rfl⟩
    obtain ⟨b1, b2⟩ := mem_uniL.1 hb
    exact ⟨im_lt .., by rw [(ords_pla hp).cnt b b1]; exact b2⟩
  · rintro ⟨s1, s2⟩
    exact ⟨im m m (pf τ) s, mem_uniL.2 ⟨im_lt .., by rw [(ords_pla h1).cnt s s1]; exact s2⟩, (im_inv h1 h2 s1).symm⟩
theorem fact_loop {m : Nat} (h8 : m ≤ 8) : Gets (loopM (ρ := Int) (fun ((v, v1) : Int × Int) =>
  if v1 ≤ (m : Int) then
  chk ((-9223372036854775808 ≤ (v * v1 : Int) ∧ (v * v1 : Int) ≤ 9223372036854775807)) <|
  chk ((-9223372036854775808 ≤ (v1 + 1 : Int) ∧ (v1 + 1 : Int) ≤ 9223372036854775807)) <|
  some (.inl (v * v1, v1 + 1))
 else
  some (.inr v)) (1, 2)) (fun r => r = ((fact m : Nat) : Int)) := by
  refine gFor (m + 2) (k0 := 2) (fun k (x : Int × Int) => x.2 = (k : Int) ∧ x.1 = ((fact (k - 1) : Nat) : Int) ∧ 2 ≤ k ∧ (k = 2 ∨ k ≤ m + 1)) (by omega) ⟨rfl, rfl, by omega, .inl rfl⟩ ?_
  rintro k ⟨_, _⟩ hk ⟨rfl, rfl, k2, k3⟩
  dsimp only
  refine gIte (fun h1 => ?_) fun h1 => gSome ?_
  · have e : ((fact (k - 1) : Nat) : Int) * (k : Int) = ((fact k : Nat) : Int) := by
      obtain ⟨j, rfl⟩ : ∃ j, k = j + 1 := ⟨k - 1, by omega⟩
      rw [Nat.add_sub_cancel, fact, Nat.mul_comm]; simp
    have hb := fact8 k (by omega)
    rw [e]
    exact gChk (by omega) (gChk (by omega) (gSome ⟨by omega, by simp, by simp, by omega, .inr (by omega)⟩))
  · rcases k3 with c | c
    · subst c
      have : m = 0 ∨ m = 1 := by omega
      rcases this with d | d <;> subst d <;> rfl
    · obtain rfl : k = m + 1 := by omega
      rfl
/-- SameIs. -/
theorem rotakeep_SameIs_law (n : Int) (l p : List Int) (hl : l.length ≤ 9223372036854775807) (hp : p.length ≤ 9223372036854775807) : rotakeep_SameIs n l p = some true := by
  refine Gets.eq ?_
  have hu : cs (uniL 4 2) = [3, 5, 6, 9, 10, 12] := by decide
  have hG := Group_spec (uni_mat (m := 4) (k := 2) (by omega) (by omega))
  rw [hu, aut_uni (by omega) (by omega)] at hG
  unfold rotakeep_SameIs
  refine gBindE (a := (4, [3, 5, 6, 9, 10, 12])) rfl (gBindE hG (gIte (fun q => absurd q (by decide)) fun _ => ?_))
  obtain ⟨c1, e1, g1⟩ := axioms_Check_spec n l hl
  rcases g1 with ⟨rfl, m, B, rfl, rfl, hB⟩ | ⟨z1, _⟩
  rotate_left
  · exact gBindE e1 (gIte (fun _ => gSome rfl) fun q => absurd z1 q)
  refine gBindE e1 (gIte (fun q => absurd rfl q) fun _ => ?_)
  have h8 := hB.m8
  refine gBind (Canon_spec hB) ?_
  rintro _ ⟨K, rfl, hK⟩
  obtain ⟨Q0, q01, q02⟩ := hK.1
  have hKm : Mat m K := by rw [q02]; exact (ren_mat hB q01).1
  refine gBindE (Group_spec hB) (gBind (Orbits_spec hB) ?_)
  rintro ⟨_, _⟩ ⟨rfl, L, rfl, hL, hLm⟩
  dsimp only
  refine gBind (Isomorphic_out hB hKm) ?_
  rintro ⟨y6, _⟩ (⟨rfl, Q, rfl, hQ, hQK⟩ | ⟨_, w⟩)
  rotate_left
  · exact absurd ⟨Q0, q01, q02.symm⟩ w
  refine gIte (fun q => absurd q (by simp)) fun _ => ?_
  refine gBindE (Rename_ok hB hQ) ?_
  rw [hQK]
  refine gBindE (a := true) (by rw [if_pos (by simp)]; exact SameMatroid_self _ _) (gIte (fun q => absurd q (by simp)) fun _ => ?_)
  refine gBind (fact_loop h8) ?_
  rintro _ rfl
  have hap := aut_pos hB.toFam
  have hLlen := hL.len
  refine gBind (R := fun z => match z with | .inl s => s = ((2 ^ m - 1 : Nat) : Int) | .inr r => False) (gFor L.length (fun k (x : Int × Int) => x.2 = (k : Int) ∧ ∃ s : Nat, x.1 = (s : Int) ∧ ∀ x, s.testBit x = true ↔ ∃ j, j < k ∧ (L.getD j 0).testBit x = true) (Nat.zero_le _) ⟨rfl, 0, rfl, fun x => by simp⟩ ?_) ?_
  · rintro k ⟨_, _⟩ hk ⟨rfl, s, rfl, hs⟩
    dsimp only
    simp only [toNat_nat, cs_len, cs_get]
    refine gIte (fun h1 => gChk (by omega) ?_) fun h1 => gSome ?_
    · have hk' : k < L.length := by omega
      have hm := getD_mem hk'
      obtain ⟨i, i1, i2⟩ := (hLm _).1 hm
      have hlt := hL.lt _ hm
      have hp8 := pow_le8 h8
      have hdis : s &&& L.getD k 0 = 0 := by
        refine (disj_iff _ _).2 fun x hx => bool_ne fun hx2 => ?_
        obtain ⟨j, j1, j2⟩ := (hs x).1 hx
        obtain ⟨i', i1', i2'⟩ := (hLm _).1 (getD_mem (show j < L.length by omega))
        have o1 := (i2 x).1 hx2
        have o2 := (i2' x).1 j2
        have hxm : x < m := bit_lt hlt hx2
        have o3 : orb m B i i' := orb_trans hB.toFam i1 o1 (orb_symm hB.toFam i1' o2)
        have e : L.getD j 0 = L.getD k 0 := bx fun y => by
          rw [Bool.eq_iff_iff, i2, i2']
          exact ⟨fun z => orb_trans hB.toFam i1 o3 z, fun z => orb_trans hB.toFam i1' (orb_symm hB.toFam i1 o3) z⟩
        have := hL.rise j k j1 hk'
        omega
      have hi : (L.getD k 0).testBit i = true := (i2 i).2 (orb_refl hB.toFam i i1)
      have hsz : size (L.getD k 0) ≠ 0 := by
        rw [size_of_lt hlt h8]
        have := cnt_pos hlt hi
        omega
      have hdv : aut m B % size (L.getD k 0) = 0 := by
        rw [← els_len]
        refine orb_dvd hB.toFam i1 (List.Pairwise.filter _ List.nodup_range) fun x => ?_
        show x ∈ els (L.getD k 0) ↔ _
        rw [els_mem (by omega), i2]
      rw [and_nat, hdis]
      refine gBindE (a := ((size (L.getD k 0) : Nat) : Int)) (by rw [if_pos (by simp)]; exact Size_nat2 _) ?_
      refine gChk (fun _ => by omega) (gIte (fun q => ?_) fun _ => ?_)
      · rcases q with q | q
        · exact absurd rfl q
        · rw [← Int.ofNat_tmod, hdv] at q; exact absurd rfl q
      · rw [or_nat]
        refine gSome ⟨hk', by simp, _, rfl, fun x => ?_⟩
        rw [Nat.testBit_or, Bool.or_eq_true, hs]
        constructor
        · rintro (⟨j, j1, j2⟩ | z)
          · exact ⟨j, by omega, j2⟩
          · exact ⟨k, by omega, z⟩
        · rintro ⟨j, j1, j2⟩
          rcases Nat.lt_succ_iff_lt_or_eq.1 j1 with c | c
          · exact .inl ⟨j, c, j2⟩
          · subst c; exact .inr j2
    · obtain rfl : k = L.length := by omega
      show (s : Int) = _
      have : s = 2 ^ m - 1 := bx fun x => by
        rw [Bool.eq_iff_iff, hs, full_bit, decide_eq_true_eq]
        constructor
        · rintro ⟨j, j1, j2⟩; exact bit_lt (hL.lt _ (getD_mem j1)) j2
        · intro hx
          have hme : mkset m (fun y => @decide (orb m B x y) (Classical.propDecidable _)) ∈ L := (hLm _).2 ⟨x, hx, fun y => by
            rw [mkset_bit, Bool.and_eq_true, decide_eq_true_eq]
            constructor
            · rintro ⟨_, z⟩
              exact @of_decide_eq_true _ (Classical.propDecidable _) z
            · intro z
              refine ⟨?_, @decide_eq_true _ (Classical.propDecidable _) z⟩
              obtain ⟨P, P1, _, P3⟩ := z
              rw [← P3]; exact (ords_pla P1).lt x hx⟩
          obtain ⟨j, j1, j2⟩ := mem_getD.1 hme
          refine ⟨j, j1, ?_⟩
          rw [j2, mkset_bit, Bool.and_eq_true, decide_eq_true_eq]
          exact ⟨hx, @decide_eq_true _ (Classical.propDecidable _) (orb_refl hB.toFam x hx)⟩
      rw [this]
  rintro (s | r) hz
  rotate_left
  · exact absurd hz id
  dsimp only at hz ⊢
  subst hz
  have hdv := lagrange_dvd hB.toFam
  have e0 : Int.tmod ((fact m : Nat) : Int) ((aut m B : Nat) : Int) = 0 := by rw [← Int.ofNat_tmod, hdv]; rfl
  rw [e0]
  refine gChk (by omega) (gBindE (a := ((2 ^ m - 1 : Nat) : Int)) (by rw [if_pos (by simp)]; exact All_nat2 h8) (gIte (fun q => absurd q (by simp)) fun _ => ?_))
  refine gBind (Rename_spec hB p hp) ?_
  rintro _ (⟨P, rfl, hP, rfl⟩ | rfl)
  rotate_left
  · exact gIte (fun _ => gSome rfl) fun q => absurd (by simp) q
  have hR := ren_mat hB hP
  refine gIte (fun q => absurd rfl q) fun _ => gBind (Canon_spec hR.1) ?_
  rintro _ ⟨K', rfl, hK'⟩
  have eK := hK.uniq hB hP hK'
  subst eK
  refine gBindE (Group_spec hR.1) (gBind (Isomorphic_out hR.1 hB) ?_)
  rw [aut_ren hB.toFam hP]
  rintro ⟨y14, _⟩ (⟨rfl, _⟩ | ⟨_, w⟩)
  rotate_left
  · refine absurd ?_ w
    obtain ⟨τ, t1, t2, t3⟩ := inv_ex hP
    exact ⟨τ, t1, by rw [← ren_comp h8 hP, ren_id hB.toFam fun i hi => by rw [comp_get hi]; exact t3 i hi]⟩
  refine gBindE (a := true) (by rw [if_pos (by simp)]; exact SameMatroid_self _ _) (gSome ?_)
  simp
end Go.SH
