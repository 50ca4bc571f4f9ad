/-
  The law ComplexShelled: the law itself. Conditions: the order is no longer than 2^44.
-/
import Derived.Test.YtcjhpcbipcdhiaaLShb
set_option linter.unusedSimpArgs false
set_option linter.unusedVariables false
namespace Go.SH
open Go Go.AX

theorem Faces_okS {m : Nat} {L : List Nat} (h : Cx m L) : complex_Faces m (cs L) = some (cs (facesL m L), 0) := by
  unfold complex_Faces
  rw [h.check, Option.bind_some, if_neg (by simp), faces_ok h.toFam]; rfl
theorem getD_appS {O : List Nat} {x j : Nat} : (O ++ [x]).getD j 0 = if j < O.length then O.getD j 0 else if j = O.length then x else 0 := by
  simp only [List.getD_eq_getElem?_getD, List.getElem?_append]
  by_cases c : j < O.length
  · rw [if_pos c, if_pos c]
  · rw [if_neg c, if_neg c]
    by_cases e : j = O.length
    · rw [if_pos e, e]; simp
    · rw [if_neg e, List.getElem?_eq_none (by simp; omega)]; rfl
theorem Restriction_spec {m : Nat} {L O : List Nat} (hv : Shv m L O) {y : Bool × Int} (he : complex_Shells m (cs L) (cs O) = some y) (h0 : y.2 = 0) (h1 : y.1 = true) :
    Gets (complex_Restriction m (cs L) (cs O)) (fun r => r.2 = 0 ∧ ∃ R, r.1 = cs R ∧ R.length = O.length ∧ ∀ i, i < O.length → IsRes O i (R.getD i 0)) := by
  have h8 := hv.cx.m8
  have h256 := pow_le8 h8
  have hlen := hv.cx.len
  have hOl : O.length = L.length := hv.perm.length_eq
  unfold complex_Restriction
  refine gBindE he (gIte (fun q => absurd h0 q) fun _ => gIte (fun q => absurd h1 q) fun _ => ?_)
  refine gBind (R := fun o => ∃ R, o = cs R ∧ R.length = O.length ∧ ∀ i, i < O.length → IsRes O i (R.getD i 0))
    (gFor O.length (fun i (x : List Int × Int) => x.2 = (i : Int) ∧ ∃ R, x.1 = cs R ∧ R.length = i ∧ ∀ j, j < i → IsRes O j (R.getD j 0)) (Nat.zero_le _) ⟨rfl, [], rfl, rfl, fun j hj => absurd hj (Nat.not_lt_zero j)⟩ ?_) fun o ⟨R, e, r1, r2⟩ => gSome ⟨rfl, R, e, r1, r2⟩
  rintro i ⟨_, _⟩ hi ⟨rfl, R, e, r1, r2⟩
  simp only at e
  subst e
  simp only [cs_len, cs_get, toNat_nat, cs_takeS]
  refine gIte (fun q1 => ?_) fun q1 => gSome (by have e : i = O.length := by omega
                                                 subst e; exact ⟨R, rfl, r1, r2⟩)
  have hi' : i < O.length := by omega
  obtain ⟨f1, f2⟩ := hv.lt hi'
  have htl : (O.take i).length = i := by rw [List.length_take]; omega
  refine gChk (by omega) (gBind (R := fun o => ∃ r : Nat, o = (r : Int) ∧ IsRes O i r) (gLoop (fun (x : Int × Int) => ∃ r t : Nat, x = ((r : Int), (t : Int)) ∧ t < 256 ∧ Inc t (O.getD i 0) ∧ ∀ z, r.testBit z = true ↔ (O.getD i 0).testBit z = true ∧ t.testBit z = false ∧ ∃ j, j < i ∧ O.getD j 0 &&& O.getD i 0 = dif (O.getD i 0) (2 ^ z)) (fun x => x.2.toNat) ⟨0, _, rfl, by omega, Inc.refl _, fun z => ⟨fun q => by simp at q, fun ⟨q1, q2, _⟩ => by rw [q1] at q2; cases q2⟩⟩ ?_) ?_)
  · rintro _ ⟨r, t, rfl, ht, hti, hr⟩
    simp only
    refine gIte (fun q2 => ?_) fun q2 => gSome ⟨r, rfl, fun z => ?_⟩
    rotate_left
    · have e0 : t = 0 := by omega
      subst e0
      rw [hr]
      simp
    have hlow := low_spec ht (show t ≠ 0 by omega)
    have hless := hlow.less
    have hbit := hti _ hlow.bit
    refine gChk (by omega) (gChk (by omega) ?_)
    simp only [hlow.neg, hlow.rest, or_nat]
    refine gBind (ContainsFuncC (L := O.take i) (p := fun b => decide (b &&& O.getD i 0 = dif (O.getD i 0) (2 ^ lo1 t))) (by omega) fun s hs => ?_) fun y1 hy1 => ?_
    · unfold complex_Restriction_1
      rw [and_nat, dif_nat]
      congr 1
      rw [Bool.eq_iff_iff, decide_eq_true_eq, decide_eq_true_eq]
      omega
    have key : y1 = true ↔ ∃ j, j < i ∧ O.getD j 0 &&& O.getD i 0 = dif (O.getD i 0) (2 ^ lo1 t) := by
      rw [hy1]
      constructor
      · rintro ⟨s, hs, q⟩
        obtain ⟨j, j1, rfl⟩ := mem_getD.1 hs
        rw [htl] at j1
        rw [take_getD j1] at q
        exact ⟨j, j1, of_decide_eq_true q⟩
      · rintro ⟨j, j1, q⟩
        exact ⟨O.getD j 0, mem_getD.2 ⟨j, by omega, take_getD j1⟩, decide_eq_true q⟩
    have hin2 : Inc (dif t (2 ^ lo1 t)) (O.getD i 0) := (inc_dif _ _).trans hti
    have hd : ∀ z, (dif t (2 ^ lo1 t)).testBit z = false ↔ t.testBit z = false ∨ z = lo1 t := fun z => by
      rw [testBit_dif, testBit_pow]
      by_cases e : lo1 t = z
      · simp [e]
      · have : z ≠ lo1 t := fun q => e q.symm
        simp [e, this]
    refine gIte (fun q3 => gChk (by omega) (gSome ⟨⟨_, _, rfl, by omega, hin2, fun z => ?_⟩, by simp only [toNat_nat]; omega⟩)) fun q3 => gChk (by omega) (gSome ⟨⟨_, _, rfl, by omega, hin2, fun z => ?_⟩, by simp only [toNat_nat]; omega⟩)
    · rw [Nat.testBit_or, Bool.or_eq_true, hr, testBit_pow, decide_eq_true_eq, hd]
      constructor
      · rintro (⟨a, b, c⟩ | rfl)
        · exact ⟨a, .inl b, c⟩
        · exact ⟨hbit, .inr rfl, key.1 q3⟩
      · rintro ⟨a, b | rfl, c⟩
        · exact .inl ⟨a, b, c⟩
        · exact .inr rfl
    · rw [hr, hd]
      constructor
      · rintro ⟨a, b, c⟩; exact ⟨a, .inl b, c⟩
      · rintro ⟨a, b | rfl, c⟩
        · exact ⟨a, b, c⟩
        · exact absurd (key.2 c) q3
  · rintro _ ⟨r, rfl, hr⟩
    refine gChk (by rw [List.length_append, cs_len]; simp only [List.length_cons, List.length_nil]; omega) (gSome ⟨hi', by simp, R ++ [r], by rw [cs_app], by simp [r1], fun j hj => ?_⟩)
    rw [getD_appS, r1]
    rcases Nat.lt_succ_iff_lt_or_eq.1 hj with c | rfl
    · rw [if_pos c]; exact r2 j c
    · rw [if_neg (by omega), if_pos rfl]; exact hr

theorem cx312 : Cx 4 [3, 12] := ⟨⟨by omega, by decide, fun i j hij hj => by
  have : j = 1 := by simp at hj; omega
  subst this
  have : i = 0 := by omega
  subst this; decide⟩, by simp, by decide⟩
theorem shv312 : Shv 4 [3, 12] [3, 12] := ⟨cx312, .refl _, by decide⟩
theorem not312 : ¬ Shell 4 [3, 12] := fun h => by
  obtain ⟨k, k1, k2, _⟩ := h 1 (by decide) 0 (by decide)
  have : k = 0 := by omega
  subst this
  revert k2; decide

theorem rotakeep_ComplexShelled_law (n : Int) (a1 a2 : List Int) (h1 : a1.length ≤ 9223372036854775807) (h2 : a2.length ≤ 17592186044416) : rotakeep_ComplexShelled n a1 a2 = some true := by
  refine Gets.eq ?_
  unfold rotakeep_ComplexShelled
  refine gBind (Shells_spec 4 [3, 12] [3, 12] (by decide) (by decide)) fun y hy => ?_
  have hy2 : y.2 = 0 ∧ ¬ y.1 = true := by
    rcases hy with ⟨_, hn⟩ | ⟨q0, m, L, O, e1, e2, e3, hv, hs⟩
    · exact absurd ⟨4, [3, 12], [3, 12], rfl, rfl, rfl, shv312⟩ hn
    · have d1 : 4 = m := Int.ofNat.inj e1
      have d2 : [3, 12] = O := cs_inj (L := [3, 12]) e3
      subst d1 d2
      exact ⟨q0, fun q => not312 (hs.1 q)⟩
  refine gIte (fun q => absurd q (by simp [hy2])) fun _ => ?_
  obtain ⟨y1, e1, hs⟩ := Shells_spec n a1 a2 h1 h2
  refine gBindE e1 ?_
  rcases hs with ⟨hne, _⟩ | ⟨h0, m, L, O, rfl, rfl, rfl, hv, hS⟩
  · exact gBindE (a := ([], y1.2)) (by unfold complex_Restriction; rw [e1, Option.bind_some, if_pos hne]) (gIte (fun _ => gSome (by simp [hne])) fun q => absurd (.inl hne) q)
  by_cases ht : y1.1 = true
  rotate_left
  · exact gBindE (a := ([], 5)) (by unfold complex_Restriction; rw [e1, Option.bind_some, if_neg (by simp [h0]), if_pos ht]) (gIte (fun _ => gSome (by simp)) fun q => absurd (.inr ht) q)
  have hSh := hS.1 ht
  have h8 := hv.cx.m8
  have h256 := pow_le8 h8
  have hlen := hv.cx.len
  have hd := dim_le m L
  have hOl : O.length = L.length := hv.perm.length_eq
  obtain ⟨y2, e2, hy2', R, eR, hRl, hR⟩ := Restriction_spec hv e1 h0 ht
  obtain ⟨y21, y22⟩ := y2
  simp only at eR hy2'
  subst eR hy2'
  refine gBindE e2 (gIte (fun q => absurd q (by simp [h0, ht])) fun _ => gBindE (H_ok hv.cx) (gBindE (Faces_okS hv.cx) (gIte (fun q => absurd q (by simp [hRl])) fun _ => ?_)))
  have hfl := (faces_fam h8 L).len
  refine gBind (R := fun z => match z with | .inl _ => True | .inr r => r = true) (gFor (facesL m L).length (fun k v => v = (k : Int)) (Nat.zero_le _) rfl ?_) ?_
  · rintro k _ hk rfl
    simp only [cs_len, cs_get, toNat_nat]
    refine gIte (fun q1 => ?_) fun q1 => gSome trivial
    have hk' : k < (facesL m L).length := by omega
    obtain ⟨t1, t2⟩ := mem_facesL.1 (mem_getD.2 ⟨k, hk', rfl⟩)
    obtain ⟨t0, u1, u2⟩ := shell_once hv.perm hv.cx.lt hSh hR t2
    refine gChk (by omega) (gBind (R := fun o => o = 1) (gFor O.length (fun t (x : Int × Int) => x.2 = (t : Int) ∧ x.1 = if t0 < t then 1 else 0) (Nat.zero_le _) ⟨rfl, by simp⟩ ?_) ?_)
    · rintro t ⟨_, _⟩ ht ⟨rfl, rfl⟩
      simp only [toNat_nat]
      refine gIte (fun q2 => ?_) fun q2 => gSome (by rw [if_pos (by omega)])
      have ht' : t < O.length := by omega
      have hu := u2 t ht'
      refine gChk (by omega) (gChk (by rw [hRl]; omega) (gBindE (rotaref_Within_nat _ _) ?_))
      by_cases c1 : Inc (R.getD t 0) ((facesL m L).getD k 0)
      · refine gBindE (a := decide (Inc ((facesL m L).getD k 0) (O.getD t 0))) (by rw [if_pos (by simpa using c1)]; exact rotaref_Within_nat _ _) ?_
        by_cases c2 : Inc ((facesL m L).getD k 0) (O.getD t 0)
        · have e := hu.1 ⟨c1, c2⟩
          refine gIte (fun _ => gChk (by split <;> omega) (gSome ⟨ht', by simp, ?_⟩)) fun q => absurd ⟨decide_eq_true c1, decide_eq_true c2⟩ q
          show _ = _
          rw [if_neg (by omega), if_pos (by omega)]; rfl
        · refine gIte (fun q => absurd (of_decide_eq_true q.2) c2) fun _ => gSome ⟨ht', by simp, ?_⟩
          have : t ≠ t0 := fun e => c2 (hu.2 e).2
          show (if t0 < t then (1 : Int) else 0) = _
          by_cases c : t0 < t
          · rw [if_pos c, if_pos (by omega)]
          · rw [if_neg c, if_neg (by omega)]
      · refine gBindE (a := false) (by rw [if_neg (by simpa using c1)]) ?_
        refine gIte (fun q => absurd q (by simp)) fun _ => gSome ⟨ht', by simp, ?_⟩
        have : t ≠ t0 := fun e => c1 (hu.2 e).1
        show (if t0 < t then (1 : Int) else 0) = _
        by_cases c : t0 < t
        · rw [if_pos c, if_pos (by omega)]
        · rw [if_neg c, if_neg (by omega)]
    · rintro _ rfl
      exact gIte (fun q => absurd rfl q) fun _ => gSome ⟨hk', by simp⟩
  rintro (u | rr) hz
  rotate_left
  · exact gSome hz
  simp only [hL_len]
  have e9 : (((dimL m L + 1 : Nat) : Int)).toNat = dimL m L + 1 := rfl
  rw [e9]
  refine gChk (by omega) (gBind (R := fun o => o = hL m L) (gFor O.length (fun t (x : List Int × Int) => x.2 = (t : Int) ∧ x.1.length = dimL m L + 1 ∧ ∀ j, j < dimL m L + 1 → x.1.getD j 0 = sumN t (fun t => if cnt m (R.getD t 0) = j then 1 else 0)) (Nat.zero_le _) ⟨rfl, by simp, fun j hj => by
      rw [List.getD_eq_getElem?_getD, List.getElem?_replicate]; simp [hj, sumN]⟩ ?_) ?_)
  · rintro t ⟨v, _⟩ ht ⟨rfl, i1, i2⟩
    simp only at i1 i2 ⊢
    simp only [cs_len, cs_get, toNat_nat, hRl]
    refine gIte (fun q1 => gChk (by omega) ?_) fun q1 => gSome ?_
    · have ht' : t < O.length := by omega
      obtain ⟨f1, f2⟩ := hv.lt ht'
      have hlt := (hR t ht').inc.lt f2
      have hcl := cnt_le_of_inc (m := m) (hR t ht').inc
      rw [hv.pure _ f1] at hcl
      refine gBindE (rotaref_Size_nat _) ?_
      rw [size_of_lt hlt h8]
      simp only [toNat_nat]
      have eN := i2 (cnt m (R.getD t 0)) (by omega)
      have b1 := sumN_abs (n := t) (g := fun t' => if cnt m (R.getD t' 0) = cnt m (R.getD t 0) then 1 else 0) (c := 1) fun i hi => by split <;> omega
      refine gChk (by omega) (gSome ⟨ht', by simp, by simp [i1], fun j hj => ?_⟩)
      show (v.set _ _).getD j 0 = _
      rw [set_getD _ (by omega)]
      simp only [sumN]
      by_cases e : j = cnt m (R.getD t 0)
      · rw [if_pos e, eN, e, if_pos rfl]
      · rw [if_neg e, if_neg (fun q => e q.symm), i2 j hj]; omega
    · have e : t = O.length := by omega
      subst e
      refine list_ext_getD (by rw [i1, hL_len]) fun j hj => ?_
      rw [i1] at hj
      rw [i2 j hj, hL_get hj, h_shell h8 hv.cx.lt hv.perm hv.pure hSh hR (by omega)]
  · rintro _ rfl
    exact gBindE (SameB _) (gSome rfl)
end Go.SH
