/-
  The statement FlatsWhitney as a plain law. Conditions: lists are no longer than 2^63 - 1.
-/
import Derived.Test.YtaajhfhbonmaiaaLI
import Derived.Test.YtaajhfhbonmaiaaLWa
import Derived.Test.YtaajhfhbonmaiaaSkFlatsWhitney
set_option linter.unusedSimpArgs false
set_option linter.unusedVariables false
namespace Go.SH
open Go Go.AX

theorem ContainsFuncW {L : List Nat} {f : Int → Option Bool} {p : Nat → Bool} (hl : L.length < 2 ^ 60) (hf : ∀ s, s ∈ L → f (s : Nat) = some (p s)) :
    Gets (slices_ContainsFunc_int_int (cs L) f) (fun r => r = true ↔ ∃ s, s ∈ L ∧ p s = true) := by
  unfold slices_ContainsFunc_int_int slices_IndexFunc_int_int
  refine gBind (R := fun r : Int => 0 ≤ r ↔ ∃ s, s ∈ L ∧ p s = true) (gBind (R := fun z => match z with | .inl _ => ∀ k, k < L.length → p (L.getD k 0) = false | .inr r => 0 ≤ r ∧ ∃ s, s ∈ L ∧ p s = true)
    (gFor L.length (fun k v => v = (k : Int) ∧ ∀ j, j < k → p (L.getD j 0) = false) (Nat.zero_le _) ⟨rfl, none_all⟩ ?_) ?_) fun r hr => gSome ?_
  · rintro k _ hk ⟨rfl, hb⟩
    simp only [cs_len, cs_get, toNat_nat]
    refine gIte (fun h1 => gChk (by omega) ?_) fun h1 => gSome fun j hj => hb j (by omega)
    have hk' : k < L.length := by omega
    have hm : L.getD k 0 ∈ L := mem_getD.2 ⟨k, hk', rfl⟩
    rw [hf _ hm]
    simp only [Option.bind_some]
    refine gIte (fun q => gSome ⟨by omega, _, hm, q⟩) fun q => gSome ⟨hk', by simp, step_all hb (bool_ne q)⟩
  · rintro (u | rr) hz
    · refine gSome ⟨fun q => absurd q (by omega), fun ⟨s, hs, hp⟩ => ?_⟩
      obtain ⟨k, hk, rfl⟩ := mem_getD.1 hs
      rw [hz k hk] at hp; cases hp
    · exact gSome ⟨fun _ => hz.2, fun _ => hz.1⟩
  · rw [decide_eq_true_eq]; exact hr

/-! ### the characteristic polynomial -/
def chr (m : Nat) (B : List Nat) : List Int :=
  if (flats m B).getD 0 0 = 0 then (List.range (rk m B (2 ^ m - 1) + 1)).map fun j => sumN (flats m B).length fun i => if rk m B (2 ^ m - 1) - rk m B ((flats m B).getD i 0) = j then mob (flats m B) i else 0
  else List.replicate (rk m B (2 ^ m - 1) + 1) 0
theorem chr_len (m : Nat) (B : List Nat) : (chr m B).length = rk m B (2 ^ m - 1) + 1 := by
  unfold chr; split <;> simp
theorem rank_ok {m : Nat} (B : List Nat) (h8 : m ≤ 8) (l0 : Int) (l2 : List Int) : flats_lattice_rank l0 l2 (cs (rkL m B)) = some ((rk m B (2 ^ m - 1) : Nat) : Int) := by
  have h256 := pow_le8 h8
  have hpos : 0 < 2 ^ m := Nat.pow_pos (by omega)
  unfold flats_lattice_rank
  simp only [cs_len, rkL_len]
  have e1 : (((2 ^ m : Nat) : Int) - 1).toNat = 2 ^ m - 1 := by omega
  rw [chk_pos (by omega), e1, cs_get, rkL_get m B (by omega)]
section
variable {m : Nat} {B : List Nat} (h : Mat m B)
include h
theorem Mat.flats_ne : 0 < (flats m B).length := by
  have hpos : 0 < 2 ^ m := Nat.pow_pos (by omega)
  have : 2 ^ m - 1 ∈ flats m B := mem_flats.2 ⟨by omega, fun i hi hb => by
    rw [Nat.testBit_two_pow_sub_one] at hb; simp [hi] at hb⟩
  have _ := h
  exact List.length_pos_of_mem this
theorem Mat.flat0 : (flats m B).getD 0 0 = 0 ↔ Flat m B 0 := by
  have hF : Fam m (flats m B) := filter_fam h.m8 _
  have hpos : 0 < 2 ^ m := Nat.pow_pos (by omega)
  constructor
  · intro e
    have := (mem_flats.1 (mem_getD.2 ⟨0, h.flats_ne, rfl⟩)).2
    rwa [e] at this
  · intro hz
    obtain ⟨k, k1, k2⟩ := mem_getD.1 (mem_flats.2 ⟨hpos, hz⟩)
    rcases Nat.eq_zero_or_pos k with c | c
    · subst c; exact k2
    · have := hF.rise 0 k c k1; omega
theorem Mat.rk_full {s : Nat} (hs : s < 2 ^ m) : rk m B s ≤ rk m B (2 ^ m - 1) := h.rk_mono fun i hi => by
  rw [Nat.testBit_two_pow_sub_one]; simpa using bit_lt hs hi
theorem Mat.Char_ok : flats_Characteristic m (cs B) = some (chr m B, 0) := by
  have h8 := h.m8
  have hF : Fam m (flats m B) := filter_fam h8 _
  have hsub : (flats m B).Sublist (List.range (2 ^ m)) := List.filter_sublist
  have hlen := hF.len
  have hne := h.flats_ne
  have hR := h.rk_size (2 ^ m - 1)
  have hR8 := cnt_le m (2 ^ m - 1)
  refine Gets.eq ?_
  unfold flats_Characteristic
  refine gBindE (flats_of_ok h) (gIte (fun q => absurd rfl q) fun _ => ?_)
  refine gBindE (rank_ok B h8 _ _) (gChk (by omega) (gChk (by simp; omega) ?_))
  have eR : (((rk m B (2 ^ m - 1) : Nat) : Int) + 1).toNat = rk m B (2 ^ m - 1) + 1 := by omega
  simp only [cs_get, eR]
  refine gIte (fun q => gSome ?_) fun q => ?_
  · unfold chr; rw [if_neg (by omega)]
  · have h0 : (flats m B).getD 0 0 = 0 := by omega
    refine gBindE (mobius_ok hF hsub _ _) ?_
    refine gBind (R := fun o => o = chr m B) (gFor (flats m B).length (fun k (x : List Int × Int) => x.2 = (k : Int) ∧ x.1.length = rk m B (2 ^ m - 1) + 1 ∧ ∀ j, j < rk m B (2 ^ m - 1) + 1 → x.1.getD j 0 = sumN k fun i => if rk m B (2 ^ m - 1) - rk m B ((flats m B).getD i 0) = j then mob (flats m B) i else 0) (Nat.zero_le _) ⟨rfl, by simp, fun j hj => by
      rw [List.getD_eq_getElem?_getD, List.getElem?_replicate]; simp [sumN, hj]⟩ ?_) fun o ho => gSome (by rw [ho])
    rintro k ⟨out, _⟩ hk ⟨rfl, i1, i2⟩
    simp only [mobL_len, cs_len, rkL_len, cs_get, toNat_nat] at i1 i2 ⊢
    refine gIte (fun h1 => gChk (by omega) ?_) fun h1 => gSome ?_
    · have hk' : k < (flats m B).length := by omega
      obtain ⟨f1, f2⟩ := mem_flats.1 (mem_getD.2 ⟨k, hk', rfl⟩)
      have hrf := h.rk_full f1
      rw [rank_ok B h8]
      simp only [Option.bind_some, rkL_get m B f1]
      have ej : (((rk m B (2 ^ m - 1) : Nat) : Int) - ((rk m B ((flats m B).getD k 0) : Nat) : Int)).toNat = rk m B (2 ^ m - 1) - rk m B ((flats m B).getD k 0) := by omega
      have hj : rk m B (2 ^ m - 1) - rk m B ((flats m B).getD k 0) < rk m B (2 ^ m - 1) + 1 := by omega
      rw [ej, i2 _ hj, mobL_get _ hk']
      have b1 := sumN_abs (n := k) (g := fun i => if rk m B (2 ^ m - 1) - rk m B ((flats m B).getD i 0) = rk m B (2 ^ m - 1) - rk m B ((flats m B).getD k 0) then mob (flats m B) i else 0) (c := 68719476736) fun i hi => by
        have := hF.mob_small hsub (i := i) (by omega)
        split <;> omega
      have b2 := hF.mob_small hsub hk'
      have b3 : (k : Int) * 68719476736 ≤ 256 * 68719476736 := Int.mul_le_mul_of_nonneg_right (by omega) (by omega)
      refine gChk ⟨by omega, by omega, by omega, by omega, by omega⟩ (gSome ⟨hk', by simp, by simp [i1], fun j hj2 => ?_⟩)
      rw [set_getD _ (by omega)]
      simp only [sumN]
      by_cases e : j = rk m B (2 ^ m - 1) - rk m B ((flats m B).getD k 0)
      · rw [if_pos e, if_pos e.symm, e]
      · rw [if_neg e, if_neg (Ne.symm e), i2 j hj2, Int.add_zero]
    · have e : k = (flats m B).length := by omega
      subst e
      refine list_ext_getD (by rw [i1, chr_len]) fun j hj => ?_
      rw [i1] at hj
      rw [i2 j hj]
      unfold chr
      rw [if_pos h0, List.getD_eq_getElem?_getD, List.getElem?_map, List.getElem?_range hj]
      rfl

/-! ### sets without broken circuits -/
theorem Mat.Broken_ok : flats_Broken m (cs B) = some (cs ((List.range (2 ^ m)).filter fun s => NB m B s), 0) := by
  have h8 := h.m8
  have h256 := pow_le8 h8
  have hBl := h.len
  refine Gets.eq ?_
  unfold flats_Broken
  refine gBind (axioms_Circuits_spec m (cs B) (by simp; omega)) ?_
  rintro ⟨y1, y2⟩ hy
  rcases hy with ⟨e1, m', B', em, el, _, e2⟩ | ⟨_, _, hn⟩
  rotate_left
  · exact absurd ⟨m, B, rfl, rfl, h⟩ hn
  have em : m = m' := by omega
  subst em
  have el := cs_inj el
  subst el
  simp only at e1 e2
  have hL : ∀ C, C ∈ (List.range (2 ^ m)).filter (fun s => decide (Circ m B s)) ↔ C < 2 ^ m ∧ Circ m B C := fun C => by simp
  have fL : Fam m ((List.range (2 ^ m)).filter (fun s => decide (Circ m B s))) := filter_fam h8 _
  generalize (List.range (2 ^ m)).filter (fun s => decide (Circ m B s)) = L at *
  subst e1 e2
  have hLl := fL.len
  refine gIte (fun q => absurd rfl q) fun _ => ?_
  refine gBind (R := fun o => o = cs (L.map fun C => dif C (2 ^ lo1 C))) (gFor L.length (fun k (x : List Int × Int) => x.2 = (k : Int) ∧ x.1.length = L.length ∧ ∀ i, i < L.length → x.1.getD i 0 = (((if i < k then dif (L.getD i 0) (2 ^ lo1 (L.getD i 0)) else L.getD i 0) : Nat) : Int)) (Nat.zero_le _) ⟨rfl, by simp, fun i hi => by simp only [cs_get, Nat.not_lt_zero, if_false]⟩ ?_) ?_
  · rintro k ⟨c, _⟩ hk ⟨rfl, i1, i2⟩
    simp only [cs_len, toNat_nat] at i1 i2 ⊢
    refine gIte (fun h1 => ?_) fun h1 => gSome ?_
    · have hk' : k < L.length := by omega
      have e := i2 k hk'
      rw [if_neg (by omega)] at e
      obtain ⟨c1, c2⟩ := (hL _).1 (mem_getD.2 ⟨k, hk', rfl⟩)
      have cl := h.circ_low c1 c2
      refine gChk (by omega) (gChk (by rw [e]; omega) (gSome ⟨hk', by simp, by simp [i1], fun i hi => ?_⟩))
      rw [set_getD _ (by omega)]
      by_cases q : i = k
      · subst q; rw [if_pos rfl, if_pos (by omega), e, cl.rest]
      · rw [if_neg q, i2 i hi]
        by_cases q2 : i < k
        · rw [if_pos q2, if_pos (by omega)]
        · rw [if_neg q2, if_neg (by omega)]
    · have e : k = L.length := by omega
      subst e
      refine list_ext_getD (by simp [i1]) fun i hi => ?_
      rw [i1] at hi
      rw [i2 i hi, if_pos hi, cs_get]
      congr 1
      simp [List.getD_eq_getElem?_getD, List.getElem?_eq_getElem hi]
  · rintro o rfl
    simp only [toNat_nat, shl_nat']
    refine gChk (by omega) (gBind (R := fun o => o = cs ((List.range (2 ^ m)).filter fun s => NB m B s)) (gFor (2 ^ m) (fun k (x : List Int × Int) => x.2 = (k : Int) ∧ x.1 = cs ((List.range k).filter fun s => NB m B s)) (Nat.zero_le _) ⟨rfl, rfl⟩ ?_) fun o ho => gSome (by rw [ho]))
    rintro k ⟨_, _⟩ hk ⟨rfl, rfl⟩
    refine gIte (fun h1 => ?_) fun h1 => gSome (by have e : k = 2 ^ m := by omega
                                                   subst e; rfl)
    have hk' : k < 2 ^ m := by omega
    have hfl := List.length_filter_le (fun s => decide (NB m B s)) (List.range k)
    rw [List.length_range] at hfl
    refine gBind (ContainsFuncW (p := fun b => decide (Inc b k)) (by simp; omega) fun s hs => ?_) fun r hr => ?_
    · unfold flats_Broken_1
      rw [and_nat]
      congr 1
      rw [Bool.eq_iff_iff, decide_eq_true_eq, decide_eq_true_eq, ← sub_iff_and]
      omega
    · have key : r = true ↔ ¬ NB m B k := by
        rw [hr]
        constructor
        · rintro ⟨b, hb, hp⟩ nb
          obtain ⟨C, hC, rfl⟩ := List.mem_map.1 hb
          obtain ⟨c1, c2⟩ := (hL C).1 hC
          exact nb C c1 c2 (of_decide_eq_true hp)
        · intro nb
          rcases Classical.em (∃ b, b ∈ (L.map fun C => dif C (2 ^ lo1 C)) ∧ decide (Inc b k) = true) with q | q
          · exact q
          · exact absurd (fun C c1 c2 c3 => q ⟨_, List.mem_map.2 ⟨C, (hL C).2 ⟨c1, c2⟩, rfl⟩, decide_eq_true c3⟩) nb
      rw [List.range_succ, List.filter_append] at *
      refine gIte (fun q => gChk (by rw [List.length_append, cs_len]; simp only [List.length_cons, List.length_nil]; omega) (gSome ⟨hk', by simp, ?_⟩)) fun q => gSome ⟨hk', by simp, ?_⟩
      · have nb : NB m B k := by
          rcases Classical.em (NB m B k) with c | c
          · exact c
          · exact absurd (key.2 c) q
        show _ = cs _
        rw [List.filter_cons, if_pos (by simpa using nb), cs_app]; rfl
      · have nb : ¬ NB m B k := key.1 (by simpa using q)
        show _ = cs _
        rw [List.filter_cons, if_neg (by simpa using nb)]; simp
end
theorem sumN_countP (p : Nat → Bool) : ∀ n, sumN n (fun s => if p s = true then 1 else 0) = (((List.range n).countP p : Nat) : Int)
  | 0 => rfl
  | n + 1 => by
    simp only [sumN]
    rw [sumN_countP p n, List.range_succ, List.countP_append, List.countP_cons, List.countP_nil]
    cases p n <;> simp
theorem Broken_bad {n : Int} {l : List Int} {c : Int} (h : axioms_Check n l = some c) (h0 : c ≠ 0) : flats_Broken n l = some ([], c) := by
  have : axioms_Circuits n l = some ([], c) := by
    unfold axioms_Circuits axioms_family
    rw [h]; simp [h0]
  unfold flats_Broken
  rw [this, Option.bind_some, if_pos h0]
theorem Char_bad {n : Int} {l : List Int} {c : Int} (h : axioms_Check n l = some c) (h0 : c ≠ 0) : flats_Characteristic n l = some ([], c) := by
  unfold flats_Characteristic
  rw [flats_of_bad h h0, Option.bind_some, if_pos h0]
theorem chr_two : chr 4 twoB = [3, -4, 1] := by decide +kernel

theorem rotakeep_FlatsWhitney_law (n : Int) (l : List Int) (hl : l.length ≤ 9223372036854775807) : rotakeep_FlatsWhitney n l = some true := by
  refine Gets.eq ?_
  unfold rotakeep_FlatsWhitney
  refine gBindE two_eq (gBindE mat_two.Char_ok ?_)
  rw [chr_two]
  refine gIte (fun _ => ?_) fun q => absurd (by simp) q
  refine gBindE (Same64_self _) (gIte (fun q => absurd rfl q) fun _ => ?_)
  obtain ⟨c, hc, hs⟩ := axioms_Check_spec n l hl
  rcases hs with ⟨rfl, m, B, rfl, rfl, hM⟩ | ⟨h0, _⟩
  rotate_left
  · exact gBindE (Char_bad hc h0) (gBindE (Broken_bad hc h0) (gIte (fun _ => gChk (by simp) (gSome (by simp))) fun q => absurd h0 q))
  have h8 := hM.m8
  have h256 := pow_le8 h8
  have hR := hM.rk_size (2 ^ m - 1)
  have hR8 := cnt_le m (2 ^ m - 1)
  refine gBindE hM.Char_ok (gBindE hM.Broken_ok (gIte (fun q => absurd rfl q) fun _ => ?_))
  have hN : ∀ s, s ∈ (List.range (2 ^ m)).filter (fun s => decide (NB m B s)) ↔ s < 2 ^ m ∧ NB m B s := fun s => by simp
  have hcount : ∀ k, ((((List.range (2 ^ m)).filter (fun s => decide (NB m B s))).countP (fun s => decide (cnt m s = k)) : Nat) : Int) = sumN (2 ^ m) (fun s => if NB m B s ∧ cnt m s = k then 1 else 0) := fun k => by
    rw [List.countP_filter, ← sumN_countP]
    refine sumN_congr fun s _ => ?_
    by_cases q1 : NB m B s <;> by_cases q2 : cnt m s = k <;> simp [q1, q2]
  have hNl : ((List.range (2 ^ m)).filter (fun s => decide (NB m B s))).length ≤ 256 := by
    have := List.length_filter_le (fun s => decide (NB m B s)) (List.range (2 ^ m))
    rw [List.length_range] at this; omega
  generalize hNN : (List.range (2 ^ m)).filter (fun s => decide (NB m B s)) = N at *
  have hcl : (chr m B).length = rk m B (2 ^ m - 1) + 1 := chr_len m B
  simp only [hcl, cs_len]
  have eR : (((rk m B (2 ^ m - 1) + 1 : Nat)) : Int).toNat = rk m B (2 ^ m - 1) + 1 := by omega
  rw [eR]
  refine gChk (by omega) (gBind (R := fun z => match z with | .inl v => v.length = rk m B (2 ^ m - 1) + 1 ∧ ∀ j, j < rk m B (2 ^ m - 1) + 1 → v.getD j 0 = ((N.countP (fun s => decide (cnt m s = j)) : Nat) : Int) | .inr _ => False)
    (gFor N.length (fun k (x : List Int × Int) => x.2 = (k : Int) ∧ x.1.length = rk m B (2 ^ m - 1) + 1 ∧ ∀ j, j < rk m B (2 ^ m - 1) + 1 → x.1.getD j 0 = (((N.take k).countP (fun s => decide (cnt m s = j)) : Nat) : Int)) (Nat.zero_le _) ⟨rfl, by simp, fun j hj => by
      rw [List.getD_eq_getElem?_getD, List.getElem?_replicate]; simp [hj]⟩ ?_) ?_)
  · rintro k ⟨v, _⟩ hk ⟨rfl, i1, i2⟩
    simp only [cs_get, toNat_nat] at i1 i2 ⊢
    refine gIte (fun h1 => gChk (by omega) ?_) fun h1 => gSome ⟨i1, fun j hj => by rw [i2 j hj, List.take_of_length_le (by omega)]⟩
    have hk' : k < N.length := by omega
    obtain ⟨n1, n2⟩ := (hN _).1 (mem_getD.2 ⟨k, hk', rfl⟩)
    have etake : N.take (k + 1) = N.take k ++ [N.getD k 0] := by
      rw [List.take_add_one, List.getD_eq_getElem?_getD, List.getElem?_eq_getElem hk']; rfl
    have r1 := hM.NB_ind n1 n2
    have r2 := hM.rk_full n1
    rw [rotaref_Size_nat, size_of_lt n1 h8]
    simp only [Option.bind_some, toNat_nat]
    refine gIte (fun q => absurd q (by omega)) fun _ => ?_
    have hj : cnt m (N.getD k 0) < rk m B (2 ^ m - 1) + 1 := by omega
    have hcp := List.countP_le_length (p := fun s => decide (cnt m s = cnt m (N.getD k 0))) (l := N.take k)
    have htl := List.length_take_le k N
    have eN := i2 _ hj
    refine gChk (by omega) (gSome ⟨hk', by simp, by simp [i1], fun j hj2 => ?_⟩)
    show (v.set _ _).getD j 0 = _
    rw [set_getD _ (by omega), etake, List.countP_append, List.countP_cons, List.countP_nil]
    by_cases e : j = cnt m (N.getD k 0)
    · rw [if_pos e, if_pos (by simp [e]), e]; omega
    · rw [if_neg e, if_neg (by simpa using fun x => e x.symm), i2 j hj2]; omega
  · rintro (v | rr) hz
    rotate_left
    · exact hz.elim
    obtain ⟨v1, v2⟩ := hz
    refine gBind (R := fun z => match z with | .inl _ => True | .inr r => False) (gFor (rk m B (2 ^ m - 1) + 1) (fun k v => v = (k : Int)) (Nat.zero_le _) rfl ?_) ?_
    · rintro k _ hk rfl
      simp only [v1, toNat_nat]
      refine gIte (fun h1 => gChk (by omega) ?_) fun h1 => gSome trivial
      have hk' : k < rk m B (2 ^ m - 1) + 1 := by omega
      have ei : ((((rk m B (2 ^ m - 1) + 1 : Nat)) : Int) - 1 - (k : Int)).toNat = rk m B (2 ^ m - 1) - k := by omega
      have hcp := List.countP_le_length (p := fun s => decide (cnt m s = k)) (l := N)
      have hx : (chr m B).getD (rk m B (2 ^ m - 1) - k) 0 = sg k * ((N.countP (fun s => decide (cnt m s = k)) : Nat) : Int) := by
        rw [hcount]
        by_cases hf : Flat m B 0
        · rw [← hM.whitney hf]
          unfold chr
          rw [if_pos (hM.flat0.2 hf), List.getD_eq_getElem?_getD, List.getElem?_map, List.getElem?_range (by omega)]
          refine sumN_congr fun i hi => ?_
          have := hM.rk_full (mem_flats.1 (mem_getD.2 ⟨i, hi, rfl⟩)).1
          by_cases e : rk m B ((flats m B).getD i 0) = k
          · rw [if_pos e, if_pos (by omega)]
          · rw [if_neg e, if_neg (by omega)]
        · have e0 : sumN (2 ^ m) (fun s => if NB m B s ∧ cnt m s = k then (1 : Int) else 0) = 0 := by
            have ez : sumN (2 ^ m) (fun s => if NB m B s ∧ cnt m s = k then (1 : Int) else 0) = sumN (2 ^ m) (fun _ => 0) := sumN_congr fun s _ => if_neg fun (q : NB m B s ∧ cnt m s = k) => hM.NB_loop hf s q.1
            rw [ez, sumN_zero]
          rw [e0, Int.mul_zero]
          unfold chr
          rw [if_neg fun q => hf (hM.flat0.1 q), List.getD_eq_getElem?_getD, List.getElem?_replicate]
          split <;> rfl
      have v2k := v2 k hk'
      rw [ei, hx]
      generalize N.countP (fun s => decide (cnt m s = k)) = M at *
      have e2 : (k : Int).tmod 2 = ((k % 2 : Nat) : Int) := tmod_two _
      have habs : rotakeep_abs (sg k * (M : Int)) = some (M : Int) := by
        unfold rotakeep_abs sg
        split
        · rw [chk_pos (by omega)]; congr 1; omega
        · rw [chk_pos (by omega)]; congr 1; omega
      rw [habs, Option.bind_some]
      simp only [v2k, e2]
      refine gChk (by omega) (gIte (fun q => ?_) fun _ => gSome ⟨hk', by simp⟩)
      exfalso
      unfold sg at q
      rcases q with (q | ⟨q1, q2⟩) | ⟨q1, q2⟩
      · exact q rfl
      · rw [if_pos (by omega)] at q2; omega
      · rw [if_neg (by omega)] at q2; omega
    · rintro (u | rr) hz
      · exact gSome (by simp)
      · exact hz.elim
end Go.SH
