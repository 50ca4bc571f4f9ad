/-
  The dual matroid as minors.Dual makes it; slices.Contains. Conditions: a matroid.
-/
import Derived.Test.YtdhbpoafkhojnaaLA
import Derived.Test.YtdhbpoafkhojnaaLRm
import Derived.Test.YtdhbpoafkhojnaaLUq
set_option linter.unusedSimpArgs false
set_option linter.unusedVariables false
namespace Go.SH
open Go Go.AX

theorem slices_Index_spec (l : List Int) (t : Int) (hl : l.length < 2 ^ 60) : Gets (slices_Index_int_int l t) (fun r => (∃ k : Nat, r = k ∧ k < l.length ∧ l.getD k 0 = t ∧ ∀ j, j < k → l.getD j 0 ≠ t) ∨ (r = -1 ∧ t ∉ l)) := by
  unfold slices_Index_int_int
  refine gBind (R := fun z => match z with | .inl _ => ∀ k, k < l.length → l.getD k 0 ≠ t | .inr r => ∃ k : Nat, r = (k : Int) ∧ k < l.length ∧ l.getD k 0 = t ∧ ∀ j, j < k → l.getD j 0 ≠ t)
    (gFor l.length (fun k v => v = (k : Int) ∧ ∀ j, j < k → l.getD j 0 ≠ t) (Nat.zero_le _) ⟨rfl, none_all⟩ ?_) ?_
  · rintro k _ hk ⟨rfl, hb⟩
    refine gIte (fun h1 => gChk (by omega) ?_) fun h1 => gSome fun j hj => hb j (by omega)
    simp only [toNat_nat]
    exact gIte (fun h2 => gSome ⟨k, rfl, by omega, h2.symm, hb⟩) fun h2 => gSome ⟨by omega, by simp, step_all hb fun e => h2 e.symm⟩
  · rintro (u | rr) hz
    · refine gSome (.inr ⟨rfl, fun h => ?_⟩)
      obtain ⟨j, hj, rfl⟩ := List.getElem_of_mem h
      exact hz j hj (by rw [List.getD_eq_getElem?_getD, List.getElem?_eq_getElem hj]; rfl)
    · exact gSome (.inl hz)
theorem slices_Contains_spec (l : List Int) (t : Int) (hl : l.length < 2 ^ 60) : slices_Contains_int_int l t = some (decide (t ∈ l)) := by
  refine Gets.eq ?_
  unfold slices_Contains_int_int
  refine gBind (slices_Index_spec l t hl) fun r hr => gSome ?_
  rcases hr with ⟨k, rfl, h1, h2, _⟩ | ⟨rfl, h⟩
  · have : t ∈ l := by
      rw [← h2, List.getD_eq_getElem?_getD, List.getElem?_eq_getElem h1]; exact List.getElem_mem h1
    simp [this]
  · simp [h]

theorem made_spec {n : Nat} (h8 : n ≤ 8) (N : List Nat) (hlt : ∀ s, s ∈ N → s < 2 ^ n) (hl : N.length ≤ 2048) : ∃ K, minors_made n (cs N) = some ((n : Int), cs K) ∧ Fam n K ∧ ∀ s, s ∈ K ↔ s ∈ N := by
  obtain ⟨K, k1, k2, k3⟩ := sortU h8 N hlt
  have hKl := k2.len
  refine ⟨K, ?_, k2, k3⟩
  unfold minors_made
  rw [k1, chk_pos (by simp; omega), chk_pos (by simp; omega)]
section
variable {m : Nat} {B : List Nat} (h : Mat m B)
include h
theorem Mat.ind_big {I b : Nat} (hI : Ind B I) (hb : b ∈ B) (hc : cnt m b ≤ cnt m I) : I ∈ B := by
  obtain ⟨b', h1, h2⟩ := hI
  have := inc_eq_of_cnt h2 (h.lt b' h1) (by have := h.eqc b' h1 b hb; omega)
  rw [this]; exact h1
theorem Mat.dual_ex {a b x : Nat} (ha : a ∈ B) (hb : b ∈ B) (hx : b.testBit x = true) (hxa : a.testBit x = false) : ∃ y, a.testBit y = true ∧ b.testBit y = false ∧ dif a (2 ^ y) ||| 2 ^ x ∈ B := by
  have hxm := bit_lt (h.lt b hb) hx
  have ham := h.lt a ha
  have hI : Ind B (a &&& b ||| 2 ^ x) := ⟨b, hb, inc_or (inc_and_r a b) (inc_pow hx)⟩
  obtain ⟨J, j1, j2, j3, j4⟩ := h.extend (u := a ||| 2 ^ x) _ _ (Nat.le_refl _) hI (inc_or ((inc_and_l a b).trans (inc_or_l _ _)) (inc_or_r _ _))
  have hJ : cnt m a ≤ cnt m J := by rw [j4]; exact h.ind_le ⟨a, ha, Inc.refl a⟩ (inc_or_l _ _)
  have hJB := h.ind_big j1 ha hJ
  have hca := cnt_add hxm hxa
  have hce := h.eqc J hJB a ha
  have hne : ¬ Inc (a ||| 2 ^ x) J := fun q => by have := cnt_le_of_inc (m := m) q; omega
  obtain ⟨y, y1, y2⟩ := not_inc hne
  have hJx : J.testBit x = true := j2 x (by rw [Nat.testBit_or, testBit_pow]; simp)
  have hyx : y ≠ x := fun e => by rw [e, hJx] at y2; cases y2
  have hya : a.testBit y = true := by
    rw [Nat.testBit_or, testBit_pow] at y1
    simpa [Ne.symm hyx] using y1
  refine ⟨y, hya, ?_, ?_⟩
  · cases q : b.testBit y with
    | false => rfl
    | true =>
      have := j2 y (by rw [Nat.testBit_or, Nat.testBit_and, hya, q]; rfl)
      rw [y2] at this; cases this
  · have hym := bit_lt ham hya
    have e : dif a (2 ^ y) ||| 2 ^ x = J := by
      refine (inc_eq_of_cnt (m := m) (fun i hi => ?_) (or_lt (dif_lt ham) (pow_lt hxm)) ?_).symm
      · have := j3 i hi
        rw [Nat.testBit_or, testBit_pow, Bool.or_eq_true, decide_eq_true_eq] at this
        rw [testBit_swap hyx]
        rcases this with q | q
        · refine .inr ⟨q, fun e => ?_⟩
          subst e; rw [y2] at hi; cases hi
        · exact .inl q.symm
      · have h1 := cnt_dif ham hya
        have h2 := cnt_add (m := m) (s := dif a (2 ^ y)) hxm (by rw [testBit_dif, hxa]; rfl)
        omega
    rw [e]; exact hJB
theorem Mat.dual {K : List Nat} (hK : Fam m K) (hm : ∀ x, x ∈ K ↔ ∃ b, b ∈ B ∧ x = cpl m b) : Mat m K := by
  refine ⟨hK, ?_, ?_, ?_⟩
  · obtain ⟨b, hb⟩ := h.exists_basis
    intro e
    have := (hm _).2 ⟨b, hb, rfl⟩
    rw [e] at this; simp at this
  · intro x hx y hy
    obtain ⟨a, ha, rfl⟩ := (hm x).1 hx
    obtain ⟨b, hb, rfl⟩ := (hm y).1 hy
    have h1 := cpl_cnt (m := m) (s := a)
    have h2 := cpl_cnt (m := m) (s := b)
    have h3 := h.eqc a ha b hb
    omega
  · intro x hx y hy i hi1 hi2
    obtain ⟨a, ha, rfl⟩ := (hm x).1 hx
    obtain ⟨b, hb, rfl⟩ := (hm y).1 hy
    rw [cpl_bit, Bool.and_eq_true, decide_eq_true_eq, Bool.not_eq_true'] at hi1
    rw [cpl_bit] at hi2
    simp only [hi1.1, decide_true, Bool.true_and, Bool.not_eq_false'] at hi2
    obtain ⟨f, f1, f2, f3⟩ := h.dual_ex ha hb hi2 hi1.2
    have hfm := bit_lt (h.lt a ha) f1
    have hne : f ≠ i := fun e => by rw [e, hi1.2] at f1; cases f1
    refine ⟨f, by rw [cpl_bit, f2]; simpa using hfm, by rw [cpl_bit, f1]; simp, (hm _).2 ⟨_, f3, ?_⟩⟩
    refine set_ext (or_lt (dif_lt (cpl_lt _ _)) (pow_lt hfm)) (cpl_lt _ _) fun j hj => ?_
    rw [Bool.eq_iff_iff, testBit_swap (Ne.symm hne), cpl_bit, cpl_bit, Bool.and_eq_true, Bool.and_eq_true, decide_eq_true_eq, Bool.not_eq_true', Bool.not_eq_true']
    have hsw := testBit_swap (a := a) (x := f) (y := i) (i := j) hne
    constructor
    · rintro (rfl | ⟨⟨_, q⟩, q2⟩)
      · refine ⟨hj, ?_⟩
        cases c : (dif a (2 ^ j) ||| 2 ^ i).testBit j with
        | false => rfl
        | true =>
          rcases hsw.1 c with e | ⟨_, e⟩
          · exact absurd e hne
          · exact absurd rfl e
      · refine ⟨hj, ?_⟩
        cases c : (dif a (2 ^ f) ||| 2 ^ i).testBit j with
        | false => rfl
        | true =>
          rcases hsw.1 c with e | ⟨e, _⟩
          · exact absurd e q2
          · rw [q] at e; cases e
    · rintro ⟨_, q⟩
      rcases Nat.decEq j f with c | c
      · right
        refine ⟨⟨hj, ?_⟩, fun e => ?_⟩
        · cases c2 : a.testBit j with
          | false => rfl
          | true => rw [hsw.2 (.inr ⟨c2, c⟩)] at q; cases q
        · rw [hsw.2 (.inl e)] at q; cases q
      · exact .inl c

/-! ### elements taken out -/
theorem Mat.Dual_ok : ∃ K, minors_Dual m (cs B) = some ((m : Int), cs K, 0) ∧ Mat m K ∧ ∀ x, x ∈ K ↔ ∃ b, b ∈ B ∧ x = cpl m b := by
  have h8 := h.m8
  have h256 := pow_le8 h8
  have hlen := h.len
  have hpos : 0 < 2 ^ m := Nat.pow_pos (by omega)
  have e : (((2 ^ m : Nat) : Int) - 1) = ((2 ^ m - 1 : Nat) : Int) := by omega
  obtain ⟨K, k1, k2, k3⟩ := made_spec h8 (B.map (cpl m)) (fun s hs => by
    obtain ⟨b, _, rfl⟩ := List.mem_map.1 hs
    exact cpl_lt m b) (by simp; omega)
  have k4 : ∀ x, x ∈ K ↔ ∃ b, b ∈ B ∧ x = cpl m b := fun x => by
    rw [k3 x, List.mem_map]
    exact ⟨fun ⟨b, h1, h2⟩ => ⟨b, h1, h2.symm⟩, fun ⟨b, h1, h2⟩ => ⟨b, h1, h2.symm⟩⟩
  refine ⟨K, ?_, h.dual k2 k4, k4⟩
  refine Gets.eq ?_
  unfold minors_Dual
  refine gBindE h.check (gIte (fun q => absurd rfl q) fun _ => ?_)
  refine gBind (R := fun o => o = cs (B.map (cpl m))) (gFor B.length (fun k (x : List Int × Int) => x.2 = (k : Int) ∧ x.1 = cs ((B.take k).map (cpl m))) (Nat.zero_le _) ⟨rfl, rfl⟩ ?_) ?_
  · rintro k ⟨_, _⟩ hk ⟨rfl, rfl⟩
    simp only [cs_len, cs_get, toNat_nat, shl_nat', e, dif_nat]
    refine gIte (fun h1 => gChk (by omega) (gChk ⟨by omega, by omega, ?_⟩ (gSome ⟨by omega, by simp, ?_⟩))) fun h1 => gSome (by rw [List.take_of_length_le (by omega)])
    · rw [List.length_append, cs_len, List.length_map]
      simp only [List.length_cons, List.length_nil, List.length_take]; omega
    · have q : k < B.length := by omega
      show cs _ ++ [_] = _
      rw [cs_app, List.take_add_one, List.map_append, List.getD_eq_getElem?_getD, List.getElem?_eq_getElem q]; rfl
  · rintro o rfl
    exact gBindE k1 (gSome rfl)
end
end Go.SH
