/-
  Complexes: faces, the numbers f and h, Euler's number. Conditions: none.
-/
import Derived.Test.YtkjfccdfmjnkbaaLWa
import Derived.Test.YtkjfccdfmjnkbaaSpcomplex
set_option linter.unusedSimpArgs false
set_option linter.unusedVariables false
namespace Go.SH
open Go Go.AX

/-- A complex by its facets. -/
structure Cx (m : Nat) (L : List Nat) : Prop extends Fam m L where
  ne : L ≠ []
  anti : ∀ s, s ∈ L → ∀ t, t ∈ L → Inc s t → s = t
def Face (L : List Nat) (s : Nat) : Prop := ∃ f, f ∈ L ∧ Inc s f
instance (L : List Nat) (s : Nat) : Decidable (Face L s) := by unfold Face; infer_instance
def facesL (m : Nat) (L : List Nat) : List Nat := (List.range (2 ^ m)).filter fun s => Face L s
theorem mem_facesL {m : Nat} {L : List Nat} {s : Nat} : s ∈ facesL m L ↔ s < 2 ^ m ∧ Face L s := by simp [facesL]
theorem faces_fam {m : Nat} (h8 : m ≤ 8) (L : List Nat) : Fam m (facesL m L) := filter_fam h8 _
theorem Face.mono {L : List Nat} {s t : Nat} (h : Face L t) (hs : Inc s t) : Face L s := let ⟨f, h1, h2⟩ := h; ⟨f, h1, hs.trans h2⟩

theorem complex_Check_spec (n : Int) (l : List Int) (hl : l.length ≤ 9223372036854775807) : Gets (complex_Check n l) (fun r => (r = 0 ∧ ∃ m L, n = (m : Nat) ∧ l = cs L ∧ Cx m L) ∨ (r ≠ 0 ∧ ¬ ∃ m L, n = (m : Nat) ∧ l = cs L ∧ Cx m L)) := by
  unfold complex_Check
  refine gBind (sets_Family_spec n l hl) ?_
  rintro y (⟨rfl, m, L, rfl, rfl, hL⟩ | ⟨rfl, hn⟩)
  rotate_left
  · exact gIte (fun _ => gSome (.inr ⟨by simp, fun ⟨m, L, h1, h2, h3⟩ => hn ⟨m, L, h1, h2, h3.toFam⟩⟩)) fun q => absurd (by simp) q
  have hlen := hL.len
  have uniq : ∀ {m' : Nat} {L' : List Nat}, (m : Int) = (m' : Nat) → cs L = cs L' → Cx m' L' → Cx m L := fun h1 h2 h3 => by
    have e1 := cs_inj h2
    have e2 : m = _ := Int.ofNat.inj h1
    subst e1 e2; exact h3
  refine gIte (fun q => absurd rfl q) fun _ => gIte (fun q => gSome (.inr ⟨by simp, fun ⟨m', L', h1, h2, h3⟩ => ?_⟩)) fun q => ?_
  · have hc := uniq h1 h2 h3
    rw [cs_len] at q
    exact hc.ne (List.length_eq_zero_iff.1 (by omega))
  rw [cs_len] at q
  have hne : L ≠ [] := fun e => by rw [e] at q; simp at q
  refine gBind (R := fun z => match z with | .inl _ => ∀ k, k < L.length → ∀ j, j < L.length → Inc (L.getD k 0) (L.getD j 0) → L.getD k 0 = L.getD j 0 | .inr r => r = 3 ∧ ∃ s t, s ∈ L ∧ t ∈ L ∧ Inc s t ∧ s ≠ t)
    (gFor L.length (fun k v => v = (k : Int) ∧ ∀ i, i < k → ∀ j, j < L.length → Inc (L.getD i 0) (L.getD j 0) → L.getD i 0 = L.getD j 0) (Nat.zero_le _) ⟨rfl, fun i hi => absurd hi (Nat.not_lt_zero i)⟩ ?_) ?_
  · rintro k _ hk ⟨rfl, hb⟩
    simp only [cs_len, cs_get, toNat_nat]
    refine gIte (fun h1 => gChk (by omega) ?_) fun h1 => gSome fun i hi => hb i (by omega)
    have hk' : k < L.length := by omega
    refine gBind (R := fun z => match z with | .inl _ => ∀ j, j < L.length → Inc (L.getD k 0) (L.getD j 0) → L.getD k 0 = L.getD j 0 | .inr r => r = 3 ∧ ∃ s t, s ∈ L ∧ t ∈ L ∧ Inc s t ∧ s ≠ t)
      (gFor L.length (fun i v => v = (i : Int) ∧ ∀ j, j < i → Inc (L.getD k 0) (L.getD j 0) → L.getD k 0 = L.getD j 0) (Nat.zero_le _) ⟨rfl, fun i hi => absurd hi (Nat.not_lt_zero i)⟩ ?_) ?_
    · rintro i _ hi ⟨rfl, hc⟩
      simp only [toNat_nat, and_nat]
      refine gIte (fun h2 => gChk (by omega) ?_) fun h2 => gSome fun j hj => hc j (by omega)
      have hi' : i < L.length := by omega
      refine gIte (fun q => gSome ⟨rfl, _, _, mem_getD.2 ⟨k, hk', rfl⟩, mem_getD.2 ⟨i, hi', rfl⟩, (sub_iff_and _ _).1 (by omega), by omega⟩) fun q => gSome ⟨hi', by simp, fun j hj hin => ?_⟩
      rcases Nat.lt_succ_iff_lt_or_eq.1 hj with c | rfl
      · exact hc j c hin
      · have := (sub_iff_and _ _).2 hin
        omega
    · rintro (u | rr) hz
      · refine gSome ⟨hk', by simp, fun i hi => ?_⟩
        rcases Nat.lt_succ_iff_lt_or_eq.1 hi with c | rfl
        · exact hb i c
        · exact hz
      · exact gSome hz
  · rintro (u | rr) hz
    · refine gSome (.inl ⟨rfl, m, L, rfl, rfl, hL, hne, fun s hs t ht hi => ?_⟩)
      obtain ⟨k, k1, rfl⟩ := mem_getD.1 hs
      obtain ⟨j, j1, rfl⟩ := mem_getD.1 ht
      exact hz k k1 j j1 hi
    · obtain ⟨rfl, s, t, h1, h2, h3, h4⟩ := hz
      exact gSome (.inr ⟨by simp, fun ⟨m', L', e1, e2, e3⟩ => h4 ((uniq e1 e2 e3).anti s h1 t h2 h3)⟩)
theorem Cx.check {m : Nat} {L : List Nat} (h : Cx m L) : complex_Check m (cs L) = some 0 := by
  obtain ⟨r, h1, h2⟩ := complex_Check_spec m (cs L) (by have := h.len; simp; omega)
  rcases h2 with ⟨rfl, _⟩ | ⟨_, hn⟩
  · exact h1
  · exact absurd ⟨m, L, rfl, rfl, h⟩ hn
theorem complex_size_nat {a : Nat} (h : a < 256) : complex_size (a : Int) = some ((size a : Nat) : Int) := by
  unfold complex_size
  rw [chk_pos (by omega)]
  simp [bits_OnesCount, oc_size h]
theorem ContainsFuncC {L : List Nat} {f : Int → Option Bool} {p : Nat → Bool} (hl : L.length < 2 ^ 60) (hf : ∀ s, s ∈ L → f (s : Nat) = some (p s)) :
    Gets (slices_ContainsFunc_int_int (cs L) f) (fun r => r = true ↔ ∃ s, s ∈ L ∧ p s = true) := by
  unfold slices_ContainsFunc_int_int slices_IndexFunc_int_int
  refine gBind (R := fun r : Int => 0 ≤ r ↔ ∃ s, s ∈ L ∧ p s = true) (gBind (R := fun z => match z with | .inl _ => ∀ k, k < L.length → p (L.getD k 0) = false | .inr r => 0 ≤ r ∧ ∃ s, s ∈ L ∧ p s = true)
    (gFor L.length (fun k v => v = (k : Int) ∧ ∀ j, j < k → p (L.getD j 0) = false) (Nat.zero_le _) ⟨rfl, none_all⟩ ?_) ?_) fun r hr => gSome ?_
  · rintro k _ hk ⟨rfl, hb⟩
    simp only [cs_len, cs_get, toNat_nat]
    refine gIte (fun h1 => gChk (by omega) ?_) fun h1 => gSome fun j hj => hb j (by omega)
    have hk' : k < L.length := by omega
    have hm : L.getD k 0 ∈ L := mem_getD.2 ⟨k, hk', rfl⟩
    rw [hf _ hm]
    simp only [Option.bind_some]
    refine gIte (fun q => gSome ⟨by omega, _, hm, q⟩) fun q => gSome ⟨hk', by simp, step_all hb (bool_ne q)⟩
  · rintro (u | rr) hz
    · refine gSome ⟨fun q => absurd q (by omega), fun ⟨s, hs, hp⟩ => ?_⟩
      obtain ⟨k, hk, rfl⟩ := mem_getD.1 hs
      rw [hz k hk] at hp; cases hp
    · exact gSome ⟨fun _ => hz.2, fun _ => hz.1⟩
  · rw [decide_eq_true_eq]; exact hr
theorem faces_ok {m : Nat} {L : List Nat} (hL : Fam m L) : complex_faces m (cs L) = some (cs (facesL m L)) := by
  have h8 := hL.m8
  have h256 := pow_le8 h8
  have hlen := hL.len
  refine Gets.eq ?_
  unfold complex_faces facesL
  simp only [toNat_nat, shl_nat']
  refine gChk (by omega) (gBind (R := fun o => o = cs ((List.range (2 ^ m)).filter fun s => Face L s)) (gFor (2 ^ m) (fun k (x : List Int × Int) => x.2 = (k : Int) ∧ x.1 = cs ((List.range k).filter fun s => Face L s)) (Nat.zero_le _) ⟨rfl, rfl⟩ ?_) fun o ho => gSome ho)
  rintro k ⟨_, _⟩ hk ⟨rfl, rfl⟩
  refine gIte (fun h1 => ?_) fun h1 => gSome (by have e : k = 2 ^ m := by omega
                                                 subst e; rfl)
  have hk' : k < 2 ^ m := by omega
  have hfl := List.length_filter_le (fun s => decide (Face L s)) (List.range k)
  rw [List.length_range] at hfl
  refine gBind (ContainsFuncC (p := fun b => decide (Inc k b)) (by omega) fun s hs => ?_) fun r hr => ?_
  · unfold complex_faces_1
    rw [and_nat]
    congr 1
    rw [Bool.eq_iff_iff, decide_eq_true_eq, decide_eq_true_eq, ← sub_iff_and, Nat.and_comm]
    omega
  · have key : r = true ↔ Face L k := by
      rw [hr]
      exact ⟨fun ⟨f, h1, h2⟩ => ⟨f, h1, of_decide_eq_true h2⟩, fun ⟨f, h1, h2⟩ => ⟨f, h1, decide_eq_true h2⟩⟩
    rw [List.range_succ, List.filter_append] at *
    refine gIte (fun q => gChk (by rw [List.length_append, cs_len]; simp only [List.length_cons, List.length_nil]; omega) (gSome ⟨hk', by simp, ?_⟩)) fun q => gSome ⟨hk', by simp, ?_⟩
    · show _ = cs _
      rw [List.filter_cons, if_pos (by simpa using key.1 q), cs_app]; rfl
    · show _ = cs _
      rw [List.filter_cons, if_neg (by simpa using fun x => q (key.2 x))]; simp

/-! ### f -/
/-- The size of a greatest facet. -/
def dimL (m : Nat) (L : List Nat) : Nat := L.foldl (fun r f => max r (cnt m f)) 0
theorem cnt_le_dim {m : Nat} {L : List Nat} {f : Nat} (h : f ∈ L) : cnt m f ≤ dimL m L := (foldl_max_le (f := cnt m)).1 (Nat.le_refl _) |>.2 f h
theorem dim_le (m : Nat) (L : List Nat) : dimL m L ≤ m := (foldl_max_le (f := cnt m)).2 ⟨by omega, fun f _ => cnt_le m f⟩
def fN (m : Nat) (L : List Nat) (k : Nat) : Nat := (facesL m L).countP fun s => decide (cnt m s = k)
def fL (m : Nat) (L : List Nat) : List Nat := (List.range (dimL m L + 1)).map (fN m L)
theorem fL_len (m : Nat) (L : List Nat) : (fL m L).length = dimL m L + 1 := by simp [fL]
theorem fL_get {m : Nat} {L : List Nat} {k : Nat} (h : k < dimL m L + 1) : (fL m L).getD k 0 = fN m L k := by
  unfold fL
  rw [List.getD_eq_getElem?_getD, List.getElem?_map, List.getElem?_range h]; rfl
theorem face_cnt {m : Nat} {L : List Nat} {s : Nat} (h : Face L s) : cnt m s ≤ dimL m L := let ⟨f, h1, h2⟩ := h; Nat.le_trans (cnt_le_of_inc h2) (cnt_le_dim h1)
theorem fN_le {m : Nat} (h8 : m ≤ 8) (L : List Nat) (k : Nat) : fN m L k ≤ 256 := Nat.le_trans List.countP_le_length (faces_fam h8 L).len
theorem count_ok {m : Nat} {L : List Nat} (hL : Fam m L) : complex_count m (cs L) = some (cs (fL m L)) := by
  have h8 := hL.m8
  have h256 := pow_le8 h8
  have hlen := hL.len
  have hd := dim_le m L
  have hff := faces_fam h8 L
  have hfl := hff.len
  refine Gets.eq ?_
  unfold complex_count
  refine gBind (R := fun o => o = ((dimL m L : Nat) : Int)) (gFor L.length (fun k (x : Int × Int) => x.2 = (k : Int) ∧ x.1 = (((L.take k).foldl (fun r f => max r (cnt m f)) 0 : Nat) : Int)) (Nat.zero_le _) ⟨rfl, rfl⟩ ?_) ?_
  · rintro k ⟨_, _⟩ hk ⟨rfl, rfl⟩
    simp only [cs_len, cs_get, toNat_nat]
    refine gIte (fun h1 => gChk (by omega) ?_) fun h1 => gSome (by rw [List.take_of_length_le (by omega)]; rfl)
    have hk' : k < L.length := by omega
    have hlt := hL.lt _ (mem_getD.2 ⟨k, hk', rfl⟩)
    have etake : L.take (k + 1) = L.take k ++ [L.getD k 0] := by
      rw [List.take_add_one, List.getD_eq_getElem?_getD, List.getElem?_eq_getElem hk']; rfl
    rw [complex_size_nat (by omega), Option.bind_some, size_of_lt hlt h8]
    refine gSome ⟨hk', by simp, ?_⟩
    rw [etake, List.foldl_append]
    simp only [List.foldl_cons, List.foldl_nil]
    omega
  · rintro o rfl
    have e1 : (((dimL m L : Nat) : Int) + 1).toNat = dimL m L + 1 := by omega
    refine gChk (by omega) (gBindE (faces_ok hL) ?_)
    rw [e1]
    refine gBind (R := fun o => o = cs (fL m L)) (gFor (facesL m L).length (fun k (x : List Int × Int) => x.2 = (k : Int) ∧ x.1.length = dimL m L + 1 ∧ ∀ j, j < dimL m L + 1 → x.1.getD j 0 = ((((facesL m L).take k).countP (fun s => decide (cnt m s = j)) : Nat) : Int)) (Nat.zero_le _) ⟨rfl, by simp, fun j hj => by
      rw [List.getD_eq_getElem?_getD, List.getElem?_replicate]; simp [hj]⟩ ?_) fun o ho => gSome ho
    rintro k ⟨v, _⟩ hk ⟨rfl, i1, i2⟩
    simp only [cs_len, cs_get, toNat_nat] at i1 i2 ⊢
    refine gIte (fun h1 => gChk (by omega) ?_) fun h1 => gSome ?_
    · have hk' : k < (facesL m L).length := by omega
      obtain ⟨n1, n2⟩ := mem_facesL.1 (mem_getD.2 ⟨k, hk', rfl⟩)
      have etake : (facesL m L).take (k + 1) = (facesL m L).take k ++ [(facesL m L).getD k 0] := by
        rw [List.take_add_one, List.getD_eq_getElem?_getD, List.getElem?_eq_getElem hk']; rfl
      have r2 := face_cnt (m := m) n2
      rw [complex_size_nat (by omega), size_of_lt n1 h8]
      simp only [Option.bind_some, toNat_nat]
      have hj : cnt m ((facesL m L).getD k 0) < dimL m L + 1 := by omega
      have hcp := List.countP_le_length (p := fun s => decide (cnt m s = cnt m ((facesL m L).getD k 0))) (l := (facesL m L).take k)
      have htl := List.length_take_le k (facesL m L)
      have eN := i2 _ hj
      refine gChk (by omega) (gSome ⟨hk', by simp, by simp [i1], fun j hj2 => ?_⟩)
      show (v.set _ _).getD j 0 = _
      rw [set_getD _ (by omega), etake, List.countP_append, List.countP_cons, List.countP_nil]
      by_cases e : j = cnt m ((facesL m L).getD k 0)
      · rw [if_pos e, if_pos (by simp [e]), e]; omega
      · rw [if_neg e, if_neg (by simpa using fun x => e x.symm), i2 j hj2]; omega
    · have e : k = (facesL m L).length := by omega
      subst e
      refine list_ext_getD (by rw [i1, cs_len, fL_len]) fun j hj => ?_
      rw [i1] at hj
      rw [i2 j hj, cs_get, fL_get hj, List.take_length]; rfl
theorem F_ok {m : Nat} {L : List Nat} (h : Cx m L) : complex_F m (cs L) = some (cs (fL m L), 0) := by
  unfold complex_F
  rw [h.check, Option.bind_some, if_neg (by simp), count_ok h.toFam]; rfl

/-! ### Euler -/
def eul (m : Nat) (L : List Nat) : Int := sumN (dimL m L + 1) fun k => sg k * fN m L k
theorem sg_tmod (k : Nat) : 1 - 2 * (k : Int).tmod 2 = sg k := by
  have : (k : Int).tmod 2 = ((k % 2 : Nat) : Int) := tmod_two _
  unfold sg
  split <;> omega
theorem sg_cases (k : Nat) : sg k = 1 ∨ sg k = -1 := by unfold sg; split <;> simp
theorem eul_part {m : Nat} (h8 : m ≤ 8) (L : List Nat) (k : Nat) : -(k * 256) ≤ sumN k (fun k => sg k * fN m L k) ∧ sumN k (fun k => sg k * fN m L k) ≤ k * 256 := sumN_abs (n := k) (c := 256) fun i _ => by
  have := fN_le h8 L i
  rcases sg_cases i with e | e <;> rw [e] <;> omega
end Go.SH
