/-
  What kinds.Laminar makes of classes with no element together, each of which gives one at most; the side of a graph as a matroid. Conditions: none.
-/
import Derived.Test.YtobpcecpfojpmaaDoorLMa
import Derived.Test.YtobpcecpfojpmaaDoorSprotakeep
set_option linter.unusedSimpArgs false
set_option linter.unusedVariables false
namespace Go.SH
open Go Go.AX

theorem sortL_sorted (xs : List Int) : (sortL xs).Pairwise (· ≤ ·) := by
  have := List.pairwise_mergeSort (le := fun x y : Int => decide (x ≤ y)) (fun a b c h1 h2 => by simp only [decide_eq_true_eq] at *; omega) (fun a b => by simp only [Bool.or_eq_true, decide_eq_true_eq]; omega) xs
  exact this.imp fun h => of_decide_eq_true h
theorem sortL_nat {L : List Nat} (hn : L.Nodup) : ∃ K : List Nat, sortL (cs L) = cs K ∧ List.Perm K L ∧ K.Pairwise (· < ·) := by
  have hp : List.Perm (sortL (cs L)) (cs L) := List.mergeSort_perm _ _
  have e : sortL (cs L) = cs ((sortL (cs L)).map Int.toNat) := cs_of fun k hk => by
    have hm : (sortL (cs L)).getD k 0 ∈ sortL (cs L) := by
      rw [List.getD_eq_getElem?_getD, List.getElem?_eq_getElem hk]; exact List.getElem_mem hk
    obtain ⟨a, _, h⟩ := List.mem_map.1 (hp.mem_iff.1 hm)
    rw [← h]; exact Int.natCast_nonneg a
  have hK : List.Perm ((sortL (cs L)).map Int.toNat) L := by
    have := hp.map Int.toNat
    have e2 : (cs L).map Int.toNat = L := by
      rw [cs, List.map_map]
      exact (List.map_congr_left fun a _ => rfl).trans (List.map_id L)
    rwa [e2] at this
  refine ⟨_, e, hK, ?_⟩
  have hs := sortL_sorted (cs L)
  rw [e] at hs
  have h1 : ((sortL (cs L)).map Int.toNat).Pairwise (· ≤ ·) := by
    unfold cs at hs
    rw [List.pairwise_map] at hs
    exact hs.imp fun h => by omega
  have h2 : ((sortL (cs L)).map Int.toNat).Nodup := hK.nodup_iff.2 hn
  exact (h1.and h2).imp fun ⟨a, b⟩ => Nat.lt_of_le_of_ne a b
theorem rep1 {k j : Nat} (h : j < k) : (List.replicate k (1 : Int)).getD j 0 = 1 := by
  rw [List.getD_eq_getElem?_getD, List.getElem?_replicate]; simp [h]
theorem Laminar1_spec {n : Nat} {L : List Nat} (h : Fam n L) {s : Nat} (hs : s < 2 ^ n) : Gets (kinds_Laminar_1 (s : Int) (cs L) (List.replicate L.length 1)) (fun b => b = true ↔ ∀ a, a ∈ L → cnt n (a &&& s) ≤ 1) := by
  have h256 := pow_le8 h.m8
  unfold kinds_Laminar_1
  refine gBind (R := fun z => match z with | .inl _ => ∀ j, j < L.length → cnt n (L.getD j 0 &&& s) ≤ 1 | .inr r => r = false ∧ ∃ j, j < L.length ∧ ¬ cnt n (L.getD j 0 &&& s) ≤ 1) (gFor L.length (fun k v => v = (k : Int) ∧ ∀ j, j < k → cnt n (L.getD j 0 &&& s) ≤ 1) (Nat.zero_le _) ⟨rfl, none_all⟩ ?_) ?_
  · rintro k _ hk ⟨rfl, hb⟩
    simp only [toNat_nat, cs_len, cs_get, and_nat, List.length_replicate]
    refine gIte (fun h1 => gChk (by omega) ?_) fun h1 => gSome fun j hj => hb j (by omega)
    have hk' : k < L.length := by omega
    have hx : L.getD k 0 &&& s < 2 ^ n := and_lt (h.lt _ (mem_getD.2 ⟨k, hk', rfl⟩))
    have e1 := rep1 hk'
    refine gBindE (kinds_size_nat (by omega)) (gChk (by omega) ?_)
    rw [size_of_lt hx h.m8]
    exact gIte (fun h2 => gSome ⟨rfl, k, hk', by omega⟩) fun h2 => gSome ⟨hk', by simp, step_all hb (by omega)⟩
  · rintro (u | r) hz
    · exact gSome ⟨fun _ a ha => by obtain ⟨j, h1, h2⟩ := mem_getD.1 ha; rw [← h2]; exact hz j h1, fun _ => rfl⟩
    · obtain ⟨rfl, j, h1, h2⟩ := hz
      exact gSome ⟨fun q => absurd q (by simp), fun q => absurd (q _ (mem_getD.2 ⟨j, h1, rfl⟩)) h2⟩
theorem take_get {L : List Nat} {k j : Nat} (h : j < k) : ((cs L).take k).getD j 0 = ((L.getD j 0 : Nat) : Int) := by
  rw [← cs_get, List.getD_eq_getElem?_getD, List.getD_eq_getElem?_getD, List.getElem?_take, if_pos h]
theorem Laminar_spec {n : Nat} {L : List Nat} (h : Fam n L) (hd : ∀ a b, a ∈ L → b ∈ L → a ≠ b → a &&& b = 0) : Gets (kinds_Laminar n (cs L) (List.replicate L.length 1)) (fun r => ∃ K, r = ((n : Int), cs K, 0) ∧ Fam n K ∧ ∀ s, s ∈ K ↔ s < 2 ^ n ∧ (∀ a, a ∈ L → cnt n (a &&& s) ≤ 1) ∧ ∀ t, t < 2 ^ n → (∀ a, a ∈ L → cnt n (a &&& t) ≤ 1) → cnt n t ≤ cnt n s) := by
  have hlen := h.len
  unfold kinds_Laminar
  refine gBind (sets_Family_spec n (cs L) (by rw [cs_len]; omega)) fun y hy => ?_
  have hy0 : y = 0 := by
    rcases hy with ⟨q, _⟩ | ⟨_, q⟩
    · exact q
    · exact absurd ⟨n, L, rfl, rfl, h⟩ q
  subst hy0
  refine gIte (fun q => absurd rfl q) fun _ => gIte (fun q => absurd (by rw [List.length_replicate, cs_len]) q) fun _ => ?_
  refine gBind (R := fun z => match z with | .inl _ => True | .inr r => False) (gFor L.length (fun k v => v = (k : Int)) (Nat.zero_le _) rfl ?_) ?_
  · rintro k _ hk rfl
    simp only [toNat_nat, cs_len, cs_get, List.length_replicate]
    refine gIte (fun h1 => gChk (by omega) (gChk (by omega) ?_)) fun h1 => gSome trivial
    have hk' : k < L.length := by omega
    have e1 := rep1 hk'
    refine gIte (fun q => absurd q (by omega)) fun _ => gChk (by omega) ?_
    refine gBind (R := fun z => match z with | .inl _ => True | .inr r => False) (gFor k (fun j v => v = (j : Int)) (Nat.zero_le _) rfl ?_) ?_
    · rintro j _ hj rfl
      have e1 : ((cs L).take k).length = k := by rw [List.length_take, cs_len]; omega
      simp only [e1, toNat_nat]
      refine gIte (fun h2 => gChk (by omega) ?_) fun h2 => gSome trivial
      have hr := h.rise j k (by omega) hk'
      have e2 : iand ((L.getD k 0 : Nat) : Int) (((cs L).take k).getD j 0) = 0 := by
        rw [take_get (by omega : j < k), and_nat, hd _ _ (mem_getD.2 ⟨k, hk', rfl⟩) (mem_getD.2 ⟨j, by omega, rfl⟩) (by omega)]; rfl
      exact gIte (fun q => absurd e2 q.1.1) fun _ => gSome ⟨by omega, by simp⟩
    · rintro (u | r) hz
      · exact gSome ⟨hk', by simp⟩
      · exact hz.elim
  · rintro (u | r) hz
    · refine gBind (greatest_spec (p := fun s => ∀ a, a ∈ L → cnt n (a &&& s) ≤ 1) h.m8 (fun s hs => Laminar1_spec h hs) fun a _ => by rw [Nat.and_zero, cnt_zero]; omega) ?_
      rintro _ ⟨K, rfl, hK, hm⟩
      exact gSome ⟨K, rfl, hK, hm⟩
    · exact hz.elim

section
variable {N : Nat} {E : List (Int × Int)} {f : Nat → Nat} {of : Int → Int → Option Int}
/-- A side of a graph as a matroid: of the edges with an end together one at most. -/
theorem side_spec (h7 : N ≤ 7) (h8 : E.length ≤ 8) (hf : ∀ i, i < E.length → f i < N) (hof : ∀ i, i < E.length → of (E.getD i (0, 0)).1 (E.getD i (0, 0)).2 = some ((f i : Nat) : Int)) :
    Gets (rotakeep_MeetMatches_1 N E (E.length : Int) of) (fun r => ∃ K, r = ((E.length : Int), cs K, 0) ∧ Mat E.length K ∧ ∀ s, s < 2 ^ E.length → rk E.length K s = crk E.length N f s) := by
  have h256 := pow_le8 h8
  have hp2 : 0 < 2 ^ E.length := Nat.pow_pos (by omega)
  unfold rotakeep_MeetMatches_1
  refine gBind (R := fun x => ∃ L : List Nat, x = (cs L, List.replicate L.length 1) ∧ L.Nodup ∧ L.length ≤ N ∧ ∀ a, a ∈ L ↔ a ≠ 0 ∧ ∃ w, w < N ∧ a = cls E.length f w) (gFor N (fun k (x : List Int × List Int × Int) => x.2.2 = (k : Int) ∧ ∃ L : List Nat, x.1 = cs L ∧ x.2.1 = List.replicate L.length 1 ∧ L.Nodup ∧ L.length ≤ k ∧ ∀ a, a ∈ L ↔ a ≠ 0 ∧ ∃ w, w < k ∧ a = cls E.length f w) (Nat.zero_le _) ⟨rfl, [], rfl, rfl, List.Pairwise.nil, Nat.le_refl _, fun a => ⟨fun h => (by cases h), fun ⟨_, w, h, _⟩ => absurd h (by omega)⟩⟩ ?_) ?_
  · rintro k ⟨_, _, _⟩ hk ⟨rfl, L, rfl, rfl, b1, b2, b3⟩
    dsimp only
    refine gIte (fun h1 => ?_) fun h1 => gSome (by
      have e : k = N := by omega
      subst e
      exact ⟨L, rfl, b1, b2, b3⟩)
    have hk' : k < N := by omega
    refine gBind (R := fun v => v = ((cls E.length f k : Nat) : Int)) (gFor E.length (fun j (x : Int × Int) => x.2 = (j : Int) ∧ ∃ a : Nat, x.1 = (a : Int) ∧ ∀ i, a.testBit i = true ↔ i < j ∧ f i = k) (Nat.zero_le _) ⟨rfl, 0, rfl, fun i => by simp⟩ ?_) ?_
    · rintro j ⟨_, _⟩ hj ⟨rfl, a, rfl, ha⟩
      dsimp only
      simp only [toNat_nat, shl_nat', or_nat]
      refine gIte (fun h2 => gChk (by omega) (gBindE (hof j (by omega)) (gIte (fun h3 => gChk (by omega) (gSome ⟨by omega, by simp, a ||| 2 ^ j, rfl, fun i => ?_⟩)) fun h3 => gSome ⟨by omega, by simp, a, rfl, fun i => ?_⟩))) fun h2 => ?_
      · rw [Nat.testBit_or, Bool.or_eq_true, testBit_pow, decide_eq_true_eq, ha]
        constructor
        · rintro (q | q)
          · exact ⟨by omega, q.2⟩
          · subst q; exact ⟨by omega, by omega⟩
        · intro q
          rcases Nat.lt_succ_iff_lt_or_eq.1 q.1 with c | c
          · exact .inl ⟨c, q.2⟩
          · exact .inr c.symm
      · rw [ha]
        refine ⟨fun q => ⟨by omega, q.2⟩, fun q => ⟨?_, q.2⟩⟩
        rcases Nat.lt_succ_iff_lt_or_eq.1 q.1 with c | c
        · exact c
        · subst c; exact absurd (by omega) h3
      · have e : j = E.length := by omega
        subst e
        refine gSome (congrArg _ (bx fun i => ?_))
        rw [Bool.eq_iff_iff, ha, cls_bit]
    · rintro _ rfl
      have hc := cls_lt E.length f k
      refine gIte (fun h2 => ?_) fun h2 => ?_
      · have hne : cls E.length f k ≠ 0 := by omega
        have l1 : (cs L ++ [((cls E.length f k : Nat) : Int)]).length ≤ 8796093022208 := by rw [List.length_append, cs_len]; simp only [List.length_cons, List.length_nil]; omega
        have l2 : (List.replicate L.length (1 : Int) ++ [1]).length ≤ 8796093022208 := by rw [List.length_append, List.length_replicate]; simp only [List.length_cons, List.length_nil]; omega
        refine gChk ⟨l1, l2⟩ (gSome ⟨hk', by simp, L ++ [cls E.length f k], cs_app _ _, ?_, ?_, ?_, fun a => ?_⟩)
        · rw [List.length_append]; exact (List.replicate_succ' ..).symm
        · rw [List.nodup_append]
          refine ⟨b1, List.pairwise_singleton _ _, fun a ha b hb e => ?_⟩
          rw [List.mem_singleton] at hb
          subst hb; subst e
          obtain ⟨_, w, w1, w2⟩ := (b3 _).1 ha
          obtain ⟨i, hi⟩ := exists_bit hne
          have h3 := ((cls_bit ..).1 hi).2
          rw [w2] at hi
          have h4 := ((cls_bit ..).1 hi).2
          omega
        · rw [List.length_append]; simp only [List.length_cons, List.length_nil]; omega
        · rw [List.mem_append, List.mem_singleton, b3]
          constructor
          · rintro (⟨q1, w, q2, q3⟩ | q)
            · exact ⟨q1, w, by omega, q3⟩
            · subst q; exact ⟨hne, k, by omega, rfl⟩
          · rintro ⟨q1, w, q2, q3⟩
            rcases Nat.lt_succ_iff_lt_or_eq.1 q2 with c | c
            · exact .inl ⟨q1, w, c, q3⟩
            · subst c; exact .inr q3
      · refine gSome ⟨hk', by simp, L, rfl, rfl, b1, by omega, fun a => ?_⟩
        rw [b3]
        refine and_congr_right fun hne => ⟨fun ⟨w, q2, q3⟩ => ⟨w, by omega, q3⟩, fun ⟨w, q2, q3⟩ => ⟨w, ?_, q3⟩⟩
        rcases Nat.lt_succ_iff_lt_or_eq.1 q2 with c | c
        · exact c
        · subst c
          omega
  · rintro _ ⟨L, rfl, b1, b2, b3⟩
    obtain ⟨L', e1, e2, e3⟩ := sortL_nat b1
    dsimp only
    rw [e1]
    have elen : L'.length = L.length := e2.length_eq
    rw [← elen]
    have hmem : ∀ a, a ∈ L' ↔ a ≠ 0 ∧ ∃ w, w < N ∧ a = cls E.length f w := fun a => by rw [e2.mem_iff, b3]
    have hF : Fam E.length L' := fam_pw h8 (fun s hs => by obtain ⟨_, w, _, q⟩ := (hmem s).1 hs; rw [q]; exact cls_lt _ _ _) e3
    have hd : ∀ a b, a ∈ L' → b ∈ L' → a ≠ b → a &&& b = 0 := fun a b ha hb hab => by
      obtain ⟨_, w, w1, rfl⟩ := (hmem a).1 ha
      obtain ⟨_, x, x1, rfl⟩ := (hmem b).1 hb
      rw [disj_iff]
      intro i hi
      cases q : (cls E.length f x).testBit i with
      | false => rfl
      | true =>
        have h1 := ((cls_bit ..).1 hi).2
        have h2 := ((cls_bit ..).1 q).2
        exact absurd (by rw [← h1, ← h2]) hab
    refine gChk (by rw [cs_len]; omega) (gBind (Laminar_spec hF hd) ?_)
    rintro _ ⟨K, rfl, hK, hm⟩
    have hR := crk_rkF E.length N f
    have hfree : ∀ s, s < 2 ^ E.length → ((∀ a, a ∈ L' → cnt E.length (a &&& s) ≤ 1) ↔ crk E.length N f s = cnt E.length s) := fun s hs => by
      rw [crk_free hf hs]
      refine ⟨fun q v hv => ?_, fun q a ha => ?_⟩
      · rcases Classical.em (cls E.length f v = 0) with c | c
        · rw [c, Nat.zero_and, cnt_zero]; omega
        · exact q _ ((hmem _).2 ⟨c, v, hv, rfl⟩)
      · obtain ⟨_, w, w1, rfl⟩ := (hmem a).1 ha
        exact q w w1
    have hfl := full_lt E.length
    have hp8 : 2 ^ E.length ≤ 2 ^ 8 := Nat.pow_le_pow_right (by omega) h8
    have hle : ∀ s, s < 2 ^ E.length → Inc s (2 ^ E.length - 1) := fun s hs i hi => by rw [full_bit, decide_eq_true_eq]; exact bit_lt hs hi
    obtain ⟨hM, hrk⟩ := hR.mat h8 hK fun s => by
      rw [hm s]
      refine and_congr_right fun hs => ?_
      rw [hfree s hs]
      refine and_congr_right fun q => ⟨fun hmax => ?_, fun e t ht hpt => ?_⟩
      · obtain ⟨I, i1, i2, i3⟩ := hR.basis (G := 2 ^ E.length - 1) (by omega)
        have hI := i1.lt hfl
        rw [cnt8 h8 hI] at i2
        have := hmax I hI ((hfree I hI).2 i2)
        have := hR.mono _ _ (hle s hs)
        omega
      · have h1 := (hfree t ht).1 hpt
        have := hR.mono _ _ (hle t ht)
        omega
    exact gSome ⟨K, rfl, hM, hrk⟩
end
end Go.SH
