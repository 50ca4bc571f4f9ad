/-
  KOENIG, EDMONDS: edges with no end together, of a graph with two sides; the statement MeetMatches as a plain law. Conditions: none.
-/
import Derived.Test.YtobpcecpfojpmaaDoorLMb
import Derived.Test.YtobpcecpfojpmaaDoorLHn
import Derived.Test.YtobpcecpfojpmaaDoorSkMeetMatches
set_option linter.unusedSimpArgs false
set_option linter.unusedVariables false
namespace Go.SH
open Go Go.AX

/-- A graph as the program takes it. -/
structure Gra (N : Nat) (E : List (Int × Int)) : Prop where
  n1 : 1 ≤ N
  n7 : N ≤ 7
  e8 : E.length ≤ 8
  ends : ∀ k, k < E.length → 0 ≤ (E.getD k (0, 0)).1 ∧ 0 ≤ (E.getD k (0, 0)).2 ∧ (E.getD k (0, 0)).1 < N ∧ (E.getD k (0, 0)).2 < N
theorem CheckGraph_spec (n : Int) (E : List (Int × Int)) : Gets (kinds_CheckGraph n E) (fun r => r = 0 → ∃ N : Nat, n = N ∧ Gra N E) := by
  unfold kinds_CheckGraph
  refine gIte (fun _ => gSome (by simp)) fun h => ?_
  obtain ⟨N, rfl⟩ := Int.eq_ofNat_of_zero_le (show 0 ≤ n by omega)
  refine gBind (R := fun z => match z with | .inl _ => ∀ k, k < E.length → 0 ≤ (E.getD k (0, 0)).1 ∧ 0 ≤ (E.getD k (0, 0)).2 ∧ (E.getD k (0, 0)).1 < N ∧ (E.getD k (0, 0)).2 < N | .inr r => r ≠ 0)
    (gFor E.length (fun k v => v = (k : Int) ∧ ∀ j, j < k → 0 ≤ (E.getD j (0, 0)).1 ∧ 0 ≤ (E.getD j (0, 0)).2 ∧ (E.getD j (0, 0)).1 < N ∧ (E.getD j (0, 0)).2 < N) (Nat.zero_le _) ⟨rfl, none_all⟩ ?_) ?_
  · rintro k _ hk ⟨rfl, hb⟩
    simp only [toNat_nat]
    refine gIte (fun h1 => gChk (by omega) (gIte (fun _ => gSome (show (1 : Int) ≠ 0 by omega)) fun h2 => gSome ⟨by omega, by simp, step_all hb (by omega)⟩)) fun h1 => gSome fun j hj => hb j (by omega)
  · rintro (u | rr) hz
    · exact gSome fun _ => ⟨N, rfl, by omega, by omega, by omega, hz⟩
    · exact gSome fun e => absurd e hz

/-! ### the first question -/
theorem mat_one : Mat 1 [1] := by
  refine ⟨fam_pw (by omega) (fun s hs => by rw [List.mem_singleton] at hs; subst hs; omega) (List.pairwise_singleton _ _), by simp, fun a ha b hb => ?_, fun a ha b hb x hx hx' => ?_⟩
  · rw [List.mem_singleton] at ha hb; rw [ha, hb]
  · rw [List.mem_singleton] at ha hb; subst ha; subst hb; rw [hx] at hx'; cases hx'
theorem common_one : Gets (meet_Common 1 [1] 1 [1]) (fun y => y.1 = 1 ∧ y.2.2 = 0) := by
  obtain ⟨S, U, h1, h2, h3, h4, _, h6, _⟩ := Common_ok mat_one mat_one
  have h1' : meet_Common 1 [1] 1 [1] = some ((S : Int), (U : Int), 0) := h1
  rw [h1']
  refine gSome ⟨?_, rfl⟩
  have r1 : rk 1 [1] 1 = 1 := by decide
  have c0 : cnt 1 0 = 0 := by decide
  have p0 : cpl 1 0 = 1 := by decide
  have hS : S = 0 ∨ S = 1 := by omega
  have hU : U = 0 ∨ U = 1 := by omega
  show (S : Int) = 1
  rcases hS with rfl | rfl
  · rw [c0] at h6
    rcases hU with rfl | rfl
    · rw [p0, r1] at h6; omega
    · rw [r1] at h6; omega
  · rfl

/-! ### the B's of each A -/
section
variable {N n : Nat} {f g : Nat → Nat} {X : List Nat}
theorem adj_isN (hf : ∀ i, i < n → f i < N) (hX : X.length = N) (hb : ∀ v, v < N → ∀ x, (X.getD v 0).testBit x = true ↔ x < N ∧ ∃ i, i < n ∧ f i = v ∧ g i = x) (s : Nat) :
    IsN X s (tch n N g (mkset n fun i => s.testBit (f i))) := fun x => by
  rw [tch_bit]
  constructor
  · rintro ⟨h1, i, h2, h3, h4⟩
    rw [mkset_bit, Bool.and_eq_true] at h3
    exact ⟨f i, by rw [hX]; exact hf i h2, h3.2, (hb _ (hf i h2) x).2 ⟨h1, i, h2, rfl, h4⟩⟩
  · rintro ⟨v, h1, h2, h3⟩
    rw [hX] at h1
    obtain ⟨h4, i, h5, h6, h7⟩ := (hb v h1 x).1 h3
    exact ⟨h4, i, h5, by rw [mkset_bit, h6, h2]; simp [h5], h7⟩
/-- KOENIG: as many as can stand are as many as edges with no end together. -/
theorem koenig {A B : List Nat} {S U : Nat} {many : Int} (hf : ∀ i, i < n → f i < N) (hg : ∀ i, i < n → g i < N) (hX : X.length = N) (hb : ∀ v, v < N → ∀ x, (X.getD v 0).testBit x = true ↔ x < N ∧ ∃ i, i < n ∧ f i = v ∧ g i = x)
    (hA : Mat n A) (hB : Mat n B) (rA : ∀ s, s < 2 ^ n → rk n A s = crk n N f s) (rB : ∀ s, s < 2 ^ n → rk n B s = crk n N g s)
    (hS : S < 2 ^ n) (hU : U < 2 ^ n) (s1 : rk n A S = cnt n S) (s2 : rk n B S = cnt n S) (hSU : rk n A U + rk n B (cpl n U) = cnt n S) (ho : Ore N X many) : ((cnt n S : Nat) : Int) = many := by
  obtain ⟨o1, s, o2, o3⟩ := ho
  rw [hX] at o1 o2 o3
  refine Int.le_antisymm ?_ ?_
  · have h1 := o3 _ (tch_lt n N g _) (adj_isN hf hX hb s)
    have ht : (mkset n fun i => !s.testBit (f i)) < 2 ^ n := mkset_lt n _
    have h2 := both_le hA hB hS s1 s2 (t := mkset n fun i => !s.testBit (f i))
    have e : cpl n (mkset n fun i => !s.testBit (f i)) = mkset n fun i => s.testBit (f i) := bx fun i => by
      rw [cpl_bit, mkset_bit, mkset_bit]
      cases decide (i < n) <;> simp
    rw [rA _ ht, rB _ (cpl_lt _ _), e] at h2
    have h3 : crk n N f (mkset n fun i => !s.testBit (f i)) ≤ cnt N (cpl N s) := cnt_le_of_inc fun v hv => by
      obtain ⟨q1, i, q2, q3, q4⟩ := (tch_bit ..).1 hv
      rw [mkset_bit, q4, Bool.and_eq_true] at q3
      rw [cpl_bit, q3.2]; simp [q1]
    have h4 := cpl_cnt (m := N) (s := s)
    have e2 : crk n N g (mkset n fun i => s.testBit (f i)) = cnt N (tch n N g (mkset n fun i => s.testBit (f i))) := rfl
    omega
  · have h1 := o1 (cpl N (tch n N f U)) _ (cpl_lt _ _) (tch_lt n N g _) (adj_isN hf hX hb (cpl N (tch n N f U)))
    rw [rA _ hU, rB _ (cpl_lt _ _)] at hSU
    have h4 := cpl_cnt (m := N) (s := tch n N f U)
    have h5 : cnt N (tch n N g (mkset n fun i => (cpl N (tch n N f U)).testBit (f i))) ≤ crk n N g (cpl n U) := cnt_le_of_inc (tch_mono fun i hi => by
      rw [mkset_bit, Bool.and_eq_true, decide_eq_true_eq, cpl_bit, Bool.and_eq_true, Bool.not_eq_true'] at hi
      rw [cpl_bit]
      have hi1 := hi.1
      cases q : U.testBit i with
      | false => simp [hi1]
      | true =>
        have := (tch_bit n N f U (f i)).2 ⟨hf i hi1, i, hi1, q, rfl⟩
        rw [hi.2.2] at this
        cases this)
    have e2 : crk n N f U = cnt N (tch n N f U) := rfl
    omega
end

theorem rotakeep_MeetMatches_law (n : Int) (E : List (Int × Int)) : rotakeep_MeetMatches n E = some true := by
  refine Gets.eq ?_
  unfold rotakeep_MeetMatches
  refine gBind common_one fun y hy => gIte (fun q => absurd q (by rw [hy.1, hy.2]; simp)) fun _ => ?_
  refine gBind (CheckGraph_spec n E) fun y1 hy1 => gIte (fun _ => gSome rfl) fun hk => ?_
  obtain ⟨N, rfl, hG⟩ := hy1 (by simpa using hk)
  have h7 := hG.n7
  have h8 := hG.e8
  have hp7 : 2 ^ N ≤ 2 ^ 7 := Nat.pow_le_pow_right (by omega) h7
  have eA : ∀ i, i < E.length → (E.getD i (0, 0)).1 = (((E.getD i (0, 0)).1.toNat : Nat) : Int) := fun i hi => by have := hG.ends i hi; omega
  have eB : ∀ i, i < E.length → (E.getD i (0, 0)).2 = (((E.getD i (0, 0)).2.toNat : Nat) : Int) := fun i hi => by have := hG.ends i hi; omega
  have hA : ∀ i, i < E.length → (E.getD i (0, 0)).1.toNat < N := fun i hi => by have := hG.ends i hi; omega
  have hB : ∀ i, i < E.length → (E.getD i (0, 0)).2.toNat < N := fun i hi => by have := hG.ends i hi; omega
  refine gBind (side_spec (f := fun i => (E.getD i (0, 0)).1.toNat) h7 h8 hA fun i hi => congrArg some (eA i hi)) ?_
  rintro _ ⟨KA, rfl, mA, rA⟩
  refine gBind (side_spec (f := fun i => (E.getD i (0, 0)).2.toNat) h7 h8 hB fun i hi => congrArg some (eB i hi)) ?_
  rintro _ ⟨KB, rfl, mB, rB⟩
  obtain ⟨S, U, hC, hS, hU, s1, s2, hSU, _⟩ := Common_ok mA mB
  refine gBindE hC ?_
  refine gBind (R := fun l => ∃ X : List Nat, l = cs X ∧ X.length = N ∧ ∀ v, v < N → ∀ x, (X.getD v 0).testBit x = true ↔ x < N ∧ ∃ i, i < E.length ∧ (E.getD i (0, 0)).1.toNat = v ∧ (E.getD i (0, 0)).2.toNat = x) (gFor N (fun k (x : List Int × Int) => x.2 = (k : Int) ∧ ∃ X : List Nat, x.1 = cs X ∧ X.length = k ∧ ∀ v, v < k → ∀ x, (X.getD v 0).testBit x = true ↔ x < N ∧ ∃ i, i < E.length ∧ (E.getD i (0, 0)).1.toNat = v ∧ (E.getD i (0, 0)).2.toNat = x) (Nat.zero_le _) ⟨rfl, [], rfl, rfl, none_all⟩ ?_) ?_
  · rintro k ⟨_, _⟩ hk ⟨rfl, X, rfl, b1, b2⟩
    dsimp only at b2 ⊢
    refine gIte (fun h1 => ?_) fun h1 => gSome (by
      have e : k = N := by omega
      subst e
      exact ⟨X, rfl, b1, b2⟩)
    refine gBind (R := fun v => ∃ a : Nat, v = (a : Int) ∧ ∀ x, a.testBit x = true ↔ x < N ∧ ∃ i, i < E.length ∧ (E.getD i (0, 0)).1.toNat = k ∧ (E.getD i (0, 0)).2.toNat = x) (gFor E.length (fun j (x : Int × Int) => x.2 = (j : Int) ∧ ∃ a : Nat, x.1 = (a : Int) ∧ ∀ x, a.testBit x = true ↔ x < N ∧ ∃ i, i < j ∧ (E.getD i (0, 0)).1.toNat = k ∧ (E.getD i (0, 0)).2.toNat = x) (Nat.zero_le _) ⟨rfl, 0, rfl, fun x => by simp⟩ ?_) ?_
    · rintro j ⟨_, _⟩ hj ⟨rfl, a, rfl, ha⟩
      dsimp only
      simp only [toNat_nat]
      refine gIte (fun h2 => gChk (by omega) ?_) fun h2 => ?_
      · have hj' : j < E.length := by omega
        have q1 := eA j hj'
        have q2 := eB j hj'
        have q3 := hB j hj'
        refine gIte (fun h3 => gChk (by omega) (gSome ⟨hj', by simp, a ||| 2 ^ (E.getD j (0, 0)).2.toNat, by rw [shl_nat', or_nat], fun x => ?_⟩)) fun h3 => gSome ⟨hj', by simp, a, rfl, fun x => ?_⟩
        · rw [Nat.testBit_or, Bool.or_eq_true, testBit_pow, decide_eq_true_eq, ha]
          constructor
          · rintro (⟨c1, i, c2, c3⟩ | c)
            · exact ⟨c1, i, by omega, c3⟩
            · exact ⟨by omega, j, by omega, by omega, c⟩
          · rintro ⟨c1, i, c2, c3, c4⟩
            rcases Nat.lt_succ_iff_lt_or_eq.1 c2 with c | c
            · exact .inl ⟨c1, i, c, c3, c4⟩
            · subst c; exact .inr c4
        · rw [ha]
          refine and_congr Iff.rfl ⟨fun ⟨i, c2, c3⟩ => ⟨i, by omega, c3⟩, fun ⟨i, c2, c3⟩ => ⟨i, ?_, c3⟩⟩
          rcases Nat.lt_succ_iff_lt_or_eq.1 c2 with c | c
          · exact c
          · subst c; exact absurd (by omega) h3
      · have e : j = E.length := by omega
        subst e
        exact gSome ⟨a, rfl, ha⟩
    · rintro _ ⟨a, rfl, ha⟩
      refine gChk (by rw [List.length_append, cs_len]; simp only [List.length_cons, List.length_nil]; omega) (gSome ⟨by omega, by simp, X ++ [a], cs_app _ _, by rw [List.length_append]; simp only [List.length_cons, List.length_nil]; omega, fun v hv x => ?_⟩)
      rcases Nat.lt_succ_iff_lt_or_eq.1 hv with c | c
      · have : (X ++ [a]).getD v 0 = X.getD v 0 := by
          rw [List.getD_eq_getElem?_getD, List.getD_eq_getElem?_getD, List.getElem?_append_left (by omega)]
        rw [this]; exact b2 v c x
      · subst c
        have : (X ++ [a]).getD v 0 = a := by
          rw [List.getD_eq_getElem?_getD, List.getElem?_append_right (by omega), b1, Nat.sub_self]; rfl
        rw [this]; exact ha x
  rintro _ ⟨X, rfl, x1, x2⟩
  have hok : HOk N X := ⟨by omega, by omega, fun v hv => lt_of_bits fun x hx => by
    cases q : (X.getD v 0).testBit x with
    | false => rfl
    | true => have := ((x2 v (by omega) x).1 q).1; omega⟩
  refine gBind (Most_spec hok) ?_
  rintro _ ⟨many, rfl, ho, _⟩
  have key := koenig hA hB x1 x2 mA mB rA rB hS hU s1 s2 hSU ho
  refine gBind (R := fun z => z = many) (gIte (fun _ => ?_) fun q => absurd ⟨⟨⟨rfl, rfl⟩, rfl⟩, rfl⟩ q) ?_
  · rw [rotaref_Size_nat, size_of_lt hS h8]
    exact gSome key
  · rintro _ rfl
    exact gSome (by simp)
end Go.SH
