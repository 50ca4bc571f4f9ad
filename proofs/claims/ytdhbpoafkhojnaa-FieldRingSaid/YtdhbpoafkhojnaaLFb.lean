/-
  Package field as it computes: copies, inverses, rows with heads (field.reduced). Conditions: none.
-/
import Derived.Test.YtdhbpoafkhojnaaLFa
set_option linter.unusedSimpArgs false
set_option linter.unusedVariables false
set_option linter.unusedSectionVars false
namespace Go.SH
open Go Go.AX

section
variable {p : Nat} [NeZero p]
theorem fb1 (a b c : Fin p) : a * (b * c) = a * b * c := by grind
theorem fb2 (a b c d : Fin p) : a * b * c = a * c * b := by grind
theorem fb3 (a b t x : Fin p) : a + (0 - b) * x = a - b * x := by grind
theorem fb4 (a : Fin p) : a - 0 * a = a := by grind
theorem fb5 (a b : Fin p) : a - 0 * b = a := by grind
theorem fb6 (a b : Fin p) : a - b * 0 = a := by grind
theorem fb7 (a : Fin p) : a - a * 1 = 0 := by grind
theorem fb8 (a b : Fin p) (h : b = 0) : a * b = 0 := by grind
theorem field_twin_spec {r n : Nat} {X : List (List Int)} (hX : MOk p r n X) (hr : r ≤ 6) (hn : n ≤ 8) (P C : Int) : Gets (field_twin P C X) (fun y => y = (P, C, X)) := by
  have hl := hX.len
  unfold field_twin
  refine gBind (R := fun o => o = X) (gFor r (fun k (x : List (List Int) × Int) => x.2 = (k : Int) ∧ x.1 = X.take k) (Nat.zero_le _) ⟨rfl, rfl⟩ ?_) ?_
  · rintro k ⟨_, _⟩ hk ⟨rfl, rfl⟩
    simp only [toNat_nat]
    refine gIte (fun h1 => ?_) fun h1 => gSome (List.take_of_length_le (by omega))
    have hkr : k < r := by omega
    have hrow := hX.row k hkr
    have e : X.take (k + 1) = X.take k ++ [X.getD k []] := by
      rw [List.getD_eq_getElem?_getD, List.getElem?_eq_getElem (show k < X.length by omega)]
      exact List.take_succ_eq_append_getElem (by omega)
    refine gChk ⟨by omega, by omega⟩ (gChk (by omega) (gChk (by rw [← e, List.length_take]; omega) (gSome ⟨hkr, by simp, e.symm⟩)))
  · rintro _ rfl
    exact gSome rfl
theorem finverse_spec (hp : Fld p) (h7 : p ≤ 7) {a : Int} (ha : 0 ≤ a ∧ a < p) : Gets (field_inverse a p) (fun f => (0 ≤ f ∧ f < p) ∧ (cF p a ≠ 0 → cF p f * cF p a = 1)) := by
  have hp0 : 0 < p := Nat.pos_of_ne_zero (NeZero.ne p)
  have hp1 : 1 < p := by
    rcases Nat.lt_or_ge 1 p with c | c
    · exact c
    · exfalso
      have e : p = 1 := by omega
      subst e
      exact hp.one (by apply Fin.ext; omega)
  have one : ∀ b : Nat, b < p → (Int.tmod (a * b) p = 1 ↔ cF p (b : Int) * cF p a = 1) := fun b hb => by
    have hm := mul_bd7 ha.1 (by omega) (show (0 : Int) ≤ b by omega) (by omega)
    have e : cF p (Int.tmod (a * b) p) = cF p (b : Int) * cF p a := by
      rw [cF_tmod hm.1, cF_mul]; exact mulc _ _
    rw [← e, ← cF_one hp1, cF_eq (tmod_bd hm.1) ⟨by omega, by omega⟩]
  unfold field_inverse
  refine gBind (R := fun z : Unit ⊕ Int => match z with | .inl _ => cF p a = 0 | .inr f => (0 ≤ f ∧ f < p) ∧ (cF p a ≠ 0 → cF p f * cF p a = 1)) (gFor p (fun k (v : Int) => v = (k : Int) ∧ 1 ≤ k ∧ ∀ b : Nat, b < k → Int.tmod (a * b) p ≠ 1) (show 1 ≤ p by omega) ⟨rfl, Nat.le_refl _, fun b hb => by rw [show b = 0 by omega]; simp⟩ ?_) ?_
  · rintro k v hk ⟨rfl, hk1, hb⟩
    refine gIte (fun h1 => ?_) fun h1 => ?_
    · have hm := mul_bd7 ha.1 (by omega) (show (0 : Int) ≤ k by omega) (by omega)
      refine gChk ⟨by omega, by omega⟩ (gIte (fun h2 => ?_) fun h2 => ?_)
      · exact gSome ⟨by omega, fun _ => (one k (by omega)).1 h2⟩
      · refine gSome ⟨by omega, by simp, by omega, fun b hb' => ?_⟩
        rcases Nat.lt_succ_iff_lt_or_eq.1 hb' with c | c
        · exact hb b c
        · subst c; exact h2
    · refine gSome ?_
      refine Classical.byContradiction fun hne => ?_
      obtain ⟨b, hb2⟩ := hp.inv _ hne
      refine hb b.val (by have := b.isLt; omega) ((one b.val b.isLt).2 ?_)
      rw [cF_fin, mulc]; exact hb2
  · rintro (_ | f) hz
    · exact gSome ⟨⟨by omega, by omega⟩, fun h => absurd hz h⟩
    · exact gSome hz

/-- A row times a number. -/
theorem scale_spec {r n rk : Nat} {Y : List (List Int)} {y : Int} (h7 : p ≤ 7) (hn8 : n ≤ 8) (hY : MOk p r n Y) (hrk : rk < r) (hy : 0 ≤ y ∧ y < p) :
    ∀ f : List (List Int) × Int → Option ((List (List Int) × Int) ⊕ List (List Int)), (∀ v v5, f (v, v5) = (if v5 < (n : Int) then
      chk ((0 ≤ (rk : Int) ∧ (rk : Int) < v.length) ∧ (0 ≤ v5 ∧ v5 < ((v.getD rk []).length)) ∧ (-9223372036854775808 ≤ (((v.getD rk []).getD v5.toNat 0) * y : Int) ∧ (((v.getD rk []).getD v5.toNat 0) * y : Int) ≤ 9223372036854775807) ∧ (p : Int) ≠ 0) <|
      some (.inl (v.set rk ((v.getD rk []).set v5.toNat (Int.tmod (((v.getD rk []).getD v5.toNat 0) * y) p)), v5 + 1))
      else some (.inr v))) →
    Gets (loopM f (Y, 0)) (fun Z => MOk p r n Z ∧ ∀ a, a < r → ∀ b, b < n → MF p Z a b = if a = rk then MF p Y a b * cF p y else MF p Y a b) := by
  intro f hf
  refine gFor n (fun k (x : List (List Int) × Int) => x.2 = (k : Int) ∧ MOk p r n x.1 ∧ ∀ a, a < r → ∀ b, b < n → MF p x.1 a b = if a = rk ∧ b < k then MF p Y a b * cF p y else MF p Y a b) (Nat.zero_le _) ⟨rfl, hY, fun a ha b hb => by rw [if_neg (by omega)]⟩ ?_
  rintro k ⟨v, _⟩ hk ⟨rfl, h2, h3⟩
  dsimp only at h2 h3
  rw [hf]
  have hl := h2.len
  have er : ∀ j, (v.getD rk []).getD j 0 = ent v rk j := fun _ => rfl
  simp only [toNat_nat, hl, h2.row rk hrk, er]
  refine gIte (fun h4 => ?_) fun h4 => ?_
  · have hkn : k < n := by omega
    have br := h2.bd rk hrk k hkn
    have m1 := mul_bd7 br.1 (by omega) hy.1 (by omega)
    refine gChk ⟨⟨by omega, by omega⟩, ⟨by omega, by omega⟩, ⟨by omega, by omega⟩, by omega⟩ (gSome ⟨hkn, by simp, h2.put hrk hkn (tmod_bd m1.1), fun a ha b hb => ?_⟩)
    rw [MF_put h2 hrk hkn]
    by_cases q : a = rk ∧ b = k
    · obtain ⟨rfl, rfl⟩ := q
      rw [if_pos ⟨rfl, rfl⟩, if_pos ⟨rfl, by omega⟩, cF_tmod m1.1, cF_mul]
      have e1 : cF p (ent v a b) = MF p Y a b := by have := h3 a ha b hb; rw [if_neg (by omega)] at this; exact this
      rw [e1]
    · rw [if_neg q, h3 a ha b hb]
      by_cases q2 : a = rk ∧ b < k
      · rw [if_pos q2, if_pos ⟨q2.1, by omega⟩]
      · rw [if_neg q2, if_neg (fun h => by
          rcases Nat.lt_succ_iff_lt_or_eq.1 h.2 with d | d
          · exact q2 ⟨h.1, d⟩
          · exact q ⟨h.1, d⟩)]
  · refine gSome ⟨h2, fun a ha b hb => ?_⟩
    rw [h3 a ha b hb]
    by_cases q : a = rk
    · rw [if_pos q, if_pos ⟨q, by omega⟩]
    · rw [if_neg q, if_neg (fun h => q h.1)]
/-- A row without a multiple of another row. -/
theorem frowop_spec {r n rk i : Nat} {Y : List (List Int)} {T : Int} (h7 : p ≤ 7) (hn8 : n ≤ 8) (hY : MOk p r n Y) (hrk : rk < r) (hi : i < r) (hne : i ≠ rk) (hT : 0 ≤ T ∧ T < p) :
    ∀ f : List (List Int) × Int → Option ((List (List Int) × Int) ⊕ List (List Int)), (∀ v v7, f (v, v7) = (if v7 < (n : Int) then
      chk ((0 ≤ (i : Int) ∧ (i : Int) < v.length) ∧ (0 ≤ v7 ∧ v7 < ((v.getD i []).length)) ∧ (-9223372036854775808 ≤ ((p : Int) - T : Int) ∧ ((p : Int) - T : Int) ≤ 9223372036854775807) ∧ (0 ≤ (rk : Int) ∧ (rk : Int) < v.length) ∧ (0 ≤ v7 ∧ v7 < ((v.getD rk []).length)) ∧ (-9223372036854775808 ≤ (((p : Int) - T) * ((v.getD rk []).getD v7.toNat 0) : Int) ∧ (((p : Int) - T) * ((v.getD rk []).getD v7.toNat 0) : Int) ≤ 9223372036854775807) ∧ (-9223372036854775808 ≤ (((v.getD i []).getD v7.toNat 0) + (((p : Int) - T) * ((v.getD rk []).getD v7.toNat 0)) : Int) ∧ (((v.getD i []).getD v7.toNat 0) + (((p : Int) - T) * ((v.getD rk []).getD v7.toNat 0)) : Int) ≤ 9223372036854775807) ∧ (p : Int) ≠ 0) <|
      chk ((-9223372036854775808 ≤ (v7 + 1 : Int) ∧ (v7 + 1 : Int) ≤ 9223372036854775807)) <|
      some (.inl (v.set i ((v.getD i []).set v7.toNat (Int.tmod (((v.getD i []).getD v7.toNat 0) + (((p : Int) - T) * ((v.getD rk []).getD v7.toNat 0))) p)), v7 + 1))
      else some (.inr v))) →
    Gets (loopM f (Y, 0)) (fun Z => MOk p r n Z ∧ ∀ a, a < r → ∀ b, b < n → MF p Z a b = if a = i then MF p Y a b - cF p T * MF p Y rk b else MF p Y a b) := by
  intro f hf
  refine gFor n (fun k (x : List (List Int) × Int) => x.2 = (k : Int) ∧ MOk p r n x.1 ∧ ∀ a, a < r → ∀ b, b < n → MF p x.1 a b = if a = i ∧ b < k then MF p Y a b - cF p T * MF p Y rk b else MF p Y a b) (Nat.zero_le _) ⟨rfl, hY, fun a ha b hb => by rw [if_neg (by omega)]⟩ ?_
  rintro k ⟨v, _⟩ hk ⟨rfl, h2, h3⟩
  dsimp only at h2 h3
  rw [hf]
  have hl := h2.len
  have ei : ∀ j, (v.getD i []).getD j 0 = ent v i j := fun _ => rfl
  have er : ∀ j, (v.getD rk []).getD j 0 = ent v rk j := fun _ => rfl
  simp only [toNat_nat, hl, h2.row i hi, h2.row rk hrk, ei, er]
  refine gIte (fun h4 => ?_) fun h4 => ?_
  · have hkn : k < n := by omega
    have bi := h2.bd i hi k hkn
    have br := h2.bd rk hrk k hkn
    have m1 := mul_bd7 (a := (p : Int) - T) (by omega) (by omega) br.1 (by omega)
    refine gChk ⟨⟨by omega, by omega⟩, ⟨by omega, by omega⟩, ⟨by omega, by omega⟩, ⟨by omega, by omega⟩, ⟨by omega, by omega⟩, ⟨by omega, by omega⟩, ⟨by omega, by omega⟩, by omega⟩ ?_
    have hpos : 0 ≤ ent v i k + ((p : Int) - T) * ent v rk k := by omega
    refine gChk ⟨by omega, by omega⟩ (gSome ⟨hkn, by simp, h2.put hi hkn (tmod_bd hpos), fun a ha b hb => ?_⟩)
    rw [MF_put h2 hi hkn]
    by_cases q : a = i ∧ b = k
    · obtain ⟨rfl, rfl⟩ := q
      rw [if_pos ⟨rfl, rfl⟩, if_pos ⟨rfl, by omega⟩, cF_tmod hpos, cF_add, cF_mul, cF_sub, cF_self]
      have e1 : cF p (ent v a b) = MF p Y a b := by have := h3 a ha b hb; rw [if_neg (by omega)] at this; exact this
      have e2 : cF p (ent v rk b) = MF p Y rk b := by have := h3 rk hrk b hb; rw [if_neg (fun h => hne h.1.symm)] at this; exact this
      rw [e1, e2]; exact fb3 _ _ 0 _
    · rw [if_neg q, h3 a ha b hb]
      by_cases q2 : a = i ∧ b < k
      · rw [if_pos q2, if_pos ⟨q2.1, by omega⟩]
      · rw [if_neg q2, if_neg (fun h => by
          rcases Nat.lt_succ_iff_lt_or_eq.1 h.2 with d | d
          · exact q2 ⟨h.1, d⟩
          · exact q ⟨h.1, d⟩)]
  · refine gSome ⟨h2, fun a ha b hb => ?_⟩
    rw [h3 a ha b hb]
    by_cases q : a = i
    · rw [if_pos q, if_pos ⟨q, by omega⟩]
    · rw [if_neg q, if_neg (fun h => q h.1)]
/-- What has been done of a matrix: k heads before column c. -/
structure GJ (r n k : Nat) (h : Nat → Nat) (c : Nat) (X M : Nat → Nat → Fin p) : Prop where
  ker : ∀ w, Ker r n X w ↔ Ker r n M w
  kr : k ≤ r
  cn : c ≤ n
  inc : ∀ i j, i < j → j < k → h i < h j
  lt : ∀ i, i < k → h i < c
  one : ∀ i, i < k → M i (h i) = 1
  off : ∀ i a, i < k → a < r → a ≠ i → M a (h i) = 0
  low : ∀ i j, i < k → j < h i → M i j = 0
  rest : ∀ a j, k ≤ a → a < r → j < c → M a j = 0
theorem ker_scale {r n k : Nat} {M M' : Nat → Nat → Fin p} {y b : Fin p} (hk : k < r) (hy : y * b = 1) (h : ∀ i, i < r → ∀ j, j < n → M' i j = if i = k then M i j * y else M i j) (v : Nat → Fin p) : Ker r n M' v ↔ Ker r n M v := by
  have e : ∀ i, i < r → Sm n (fun j => M' i j * v j) = if i = k then Sm n (fun j => M i j * v j) * y else Sm n (fun j => M i j * v j) := fun i hi => by
    by_cases q : i = k
    · rw [if_pos q, ← Sm_mulr]
      exact Sm_congr fun j hj => by rw [h i hi j hj, if_pos q]; exact fb2 _ _ _ 0
    · rw [if_neg q]
      exact Sm_congr fun j hj => by rw [h i hi j hj, if_neg q]
  constructor
  · intro hv i hi
    have := hv i hi
    rw [e i hi] at this
    by_cases q : i = k
    · rw [if_pos q] at this
      exact ks _ _ _ this hy
    · rw [if_neg q] at this; exact this
  · intro hv i hi
    rw [e i hi]
    have := hv i hi
    by_cases q : i = k
    · rw [if_pos q, this]; exact fa6 _
    · rw [if_neg q]; exact this
where
  ks (a y b : Fin p) (h : a * y = 0) (h2 : y * b = 1) : a = 0 := by grind
theorem GJ.skip {r n k c : Nat} {h : Nat → Nat} {X M : Nat → Nat → Fin p} (H : GJ r n k h c X M) (hc : c < n) (hz : ∀ a, k ≤ a → a < r → M a c = 0) : GJ r n k h (c + 1) X M := by
  refine ⟨H.ker, H.kr, hc, H.inc, fun i hi => Nat.lt_succ_of_lt (H.lt i hi), H.one, H.off, H.low, fun a j h1 h2 h3 => ?_⟩
  rcases Nat.lt_succ_iff_lt_or_eq.1 h3 with q | q
  · exact H.rest a j h1 h2 q
  · subst q; exact hz a h1 h2
theorem GJ.pivot {r n k c e : Nat} {h : Nat → Nat} {X M M1 M2 M3 : Nat → Nat → Fin p} {y : Fin p} (H : GJ r n k h c X M) (hc : c < n) (hk : k < r) (he : k ≤ e) (her : e < r)
    (h1 : ∀ i, i < r → ∀ j, j < n → M1 i j = M (sw k e i) j) (hy : y * M1 k c = 1) (h2 : ∀ i, i < r → ∀ j, j < n → M2 i j = if i = k then M1 i j * y else M1 i j)
    (h3 : ∀ i, i < r → ∀ j, j < n → M3 i j = if i = k then M2 i j else M2 i j - M2 i c * M2 k j) : GJ r n (k + 1) (fun i => if i = k then c else h i) (c + 1) X M3 := by
  have swr : ∀ i, i < r → sw k e i < r := fun i hi => sw_lt hk her hi
  have swk : ∀ i, i < k → sw k e i = i := fun i hi => by unfold sw; rw [if_neg (by omega), if_neg (by omega)]
  have swg : ∀ i, k ≤ i → i < r → k ≤ sw k e i := fun i hi hr => by unfold sw; split <;> (try split) <;> omega
  have hltc : ∀ i, i < k → h i < n := fun i hi => Nat.lt_trans (H.lt i hi) hc
  -- the pivot's row
  have r1 : ∀ j, j < c → M2 k j = 0 := fun j hj => by
    rw [h2 k hk j (by omega), if_pos rfl, h1 k hk j (by omega), H.rest _ j (swg k (Nat.le_refl _) hk) (swr k hk) hj]; exact fa6 _
  have r2 : M2 k c = 1 := by rw [h2 k hk c hc, if_pos rfl, fa8]; exact hy
  have off1 : ∀ i a, i < k → a < r → a ≠ i → M2 a (h i) = 0 := fun i a hi ha hne => by
    have : M1 a (h i) = 0 := by
      rw [h1 a ha (h i) (hltc i hi)]
      refine H.off i _ hi (swr a ha) fun q => ?_
      rcases Nat.lt_or_ge a k with w | w
      · rw [swk a w] at q; exact hne q
      · have := swg a w ha; omega
    rw [h2 a ha (h i) (hltc i hi), this]
    split
    · exact fa6 _
    · rfl
  have same : ∀ i j, i < k → j < n → M2 i j = M i j := fun i j hi hj => by
    rw [h2 i (by omega) j hj, if_neg (by omega), h1 i (by omega) j hj, swk i hi]
  refine ⟨fun w => ?_, hk, hc, fun i j hij hj => ?_, fun i hi => ?_, fun i hi => ?_, fun i a hi ha hne => ?_, fun i j hi hj => ?_, fun a j ha har hj => ?_⟩
  · rw [H.ker, ← ker_sw hk her h1 w, ← ker_scale hk hy h2 w]
    refine (ker_sub (t := fun i => if i = k then 0 else M2 i c) hk (if_pos rfl) (fun i hi j hj => ?_) w).symm
    rw [h3 i hi j hj]
    by_cases q : i = k
    · rw [if_pos q, if_pos q, fb5]
    · rw [if_neg q, if_neg q]
  · by_cases q : j = k
    · rw [if_pos q, if_neg (by omega)]; exact H.lt i (by omega)
    · rw [if_neg q, if_neg (by omega)]; exact H.inc i j hij (by omega)
  · by_cases q : i = k
    · rw [if_pos q]; omega
    · rw [if_neg q]; have := H.lt i (by omega); omega
  · by_cases q : i = k
    · rw [if_pos q, h3 i (by omega) c hc, if_pos q, q, r2]
    · have hik : i < k := by omega
      rw [if_neg q, h3 i (by omega) _ (hltc i hik), if_neg q, off1 i k hik hk (by omega), same i _ hik (hltc i hik), H.one i hik, fb6]
  · by_cases q : i = k
    · rw [if_pos q, h3 a ha c hc, if_neg (by omega), r2, fb7]
    · have hik : i < k := by omega
      rw [if_neg q, h3 a ha _ (hltc i hik)]
      by_cases w : a = k
      · rw [if_pos w]; exact off1 i a hik ha hne
      · rw [if_neg w, off1 i a hik ha hne, off1 i k hik hk (by omega), fb6]
  · by_cases q : i = k
    · rw [if_pos q] at hj
      rw [h3 i (by omega) j (by omega), if_pos q, q]; exact r1 j hj
    · have hik : i < k := by omega
      rw [if_neg q] at hj
      have := H.lt i hik
      rw [h3 i (by omega) j (by omega), if_neg q, r1 j (by omega), fb6, same i j hik (by omega)]
      exact H.low i j hik hj
  · rw [h3 a har j (by omega), if_neg (by omega)]
    rcases Nat.lt_succ_iff_lt_or_eq.1 hj with w | w
    · rw [r1 j w, fb6, h2 a har j (by omega), if_neg (by omega), h1 a har j (by omega)]
      exact H.rest _ j (swg a (by omega) har) (swr a har) w
    · subst w; rw [r2, fb7]
theorem GJ.fin {r n k c : Nat} {h : Nat → Nat} {X M : Nat → Nat → Fin p} (H : GJ r n k h c X M) (he : c = n ∨ k = r) : Rr k n h M ∧ ∀ w, Ker r n X w ↔ Ker k n M w := by
  refine ⟨⟨H.inc, fun i hi => Nat.lt_of_lt_of_le (H.lt i hi) H.cn, H.one, fun i j hi hj hne => H.off j i hj (Nat.lt_of_lt_of_le hi H.kr) hne, H.low⟩, fun w => ?_⟩
  rw [H.ker]
  constructor
  · exact fun hv i hi => hv i (Nat.lt_of_lt_of_le hi H.kr)
  · intro hv i hi
    rcases Nat.lt_or_ge i k with q | q
    · exact hv i q
    · rcases he with rfl | rfl
      · exact Sm_zero fun j hj => by rw [H.rest i j q hi hj]; exact fa6 _
      · omega
theorem Rr.congr {k n : Nat} {h : Nat → Nat} {M M' : Nat → Nat → Fin p} (e : ∀ i, i < k → ∀ j, M' i j = M i j) (H : Rr k n h M) : Rr k n h M' :=
  ⟨H.inc, H.lt, fun i hi => by rw [e i hi]; exact H.one i hi, fun i j hi hj hne => by rw [e i hi]; exact H.off i j hi hj hne, fun i j hi hj => by rw [e i hi]; exact H.low i j hi hj⟩
theorem getD_take {X : List (List Int)} {k i : Nat} (hi : i < k) : (X.take k).getD i [] = X.getD i [] := by
  rw [List.getD_eq_getElem?_getD, List.getElem?_take_of_lt hi, ← List.getD_eq_getElem?_getD]
theorem MOk.take {r n k : Nat} {X : List (List Int)} (hX : MOk p r n X) (hk : k ≤ r) : MOk p k n (X.take k) := by
  have hl := hX.len
  refine ⟨by rw [List.length_take]; omega, fun i hi => by rw [getD_take hi]; exact hX.row i (by omega), fun i hi j hj => ?_⟩
  have := hX.bd i (by omega) j hj
  unfold ent at this ⊢
  rw [getD_take hi]; exact this
theorem MF_take {X : List (List Int)} {k i : Nat} (hi : i < k) (j : Nat) : MF p (X.take k) i j = MF p X i j := by unfold MF ent; rw [getD_take hi]
theorem field_reduced_spec (hp : Fld p) (h7 : p ≤ 7) {r n : Nat} {X : List (List Int)} (hX : MOk p r n X) (hr : r ≤ 6) (hn : n ≤ 8) :
    Gets (field_reduced ((p : Int), (n : Int), X)) (fun y => ∃ (k : Nat) (h : Nat → Nat) (Y : List (List Int)), k ≤ r ∧ y = ((List.range k).map (fun i => ((h i : Nat) : Int)), ((p : Int), (n : Int), Y)) ∧ MOk p k n Y ∧ Rr k n h (MF p Y) ∧ ∀ w, Ker r n (MF p X) w ↔ Ker k n (MF p Y) w) := by
  unfold field_reduced
  dsimp only
  refine gBind (R := fun z : List (List Int) × List Int => ∃ (k : Nat) (h : Nat → Nat), z.2 = (List.range k).map (fun i => ((h i : Nat) : Int)) ∧ MOk p r n z.1 ∧ ∃ c, GJ r n k h c (MF p X) (MF p z.1) ∧ (c = n ∨ k = r))
    (gFor n (fun c (s : List (List Int) × List Int × Int) => s.2.2 = (c : Int) ∧ ∃ (k : Nat) (h : Nat → Nat), s.2.1 = (List.range k).map (fun i => ((h i : Nat) : Int)) ∧ MOk p r n s.1 ∧ GJ r n k h c (MF p X) (MF p s.1)) (Nat.zero_le _)
      ⟨rfl, 0, fun _ => 0, rfl, hX, ⟨fun w => Iff.rfl, Nat.zero_le _, Nat.zero_le _, fun i j _ h => by omega, fun i h => by omega, fun i h => by omega, fun i a h => by omega, fun i j h => by omega, fun a j _ _ h => by omega⟩⟩ ?_) ?_
  · rintro c ⟨Y, v, _⟩ hc ⟨rfl, k, h, hv, hY, hG⟩
    dsimp only at hv hY hG ⊢
    have hlen : v.length = k := by rw [hv]; simp
    have hl := hY.len
    have hkr := hG.kr
    simp only [hlen]
    refine gIte (fun h1 => ?_) fun h1 => gSome ⟨k, h, hv, hY, c, hG, by omega⟩
    have hcn : c < n := by omega
    have hk : k < r := by omega
    refine gBind (search_spec hY hcn hkr _ (fun v => rfl) hr) ?_
    rintro _ ⟨e, rfl, e1, e2, e3, e4⟩
    refine gIte (fun h2 => ?_) fun h2 => ?_
    · exact gChk ⟨by omega, by omega⟩ (gSome ⟨hcn, by simp, k, h, hv, hY, hG.skip hcn fun a ha har => e3 a ha (by omega)⟩)
    have her : e < r := by omega
    simp only [toNat_nat]
    have hS := hY.swap hk her
    have hMS := MF_swap hY hk her
    obtain ⟨Y1, hY1⟩ : ∃ Y1, Y1 = (Y.set k (Y.getD e [])).set e (Y.getD k []) := ⟨_, rfl⟩
    rw [← hY1] at hS hMS ⊢
    have hl1 := hS.len
    have b1 := hS.bd k hk c hcn
    refine gChk ⟨by omega, by omega⟩ (gChk ⟨by omega, by omega⟩ (gChk ⟨by omega, by omega⟩ (gChk ⟨by omega, by omega⟩ (gChk ⟨⟨by omega, by omega⟩, by omega, by rw [hS.row k hk]; omega⟩ ?_))))
    have ee : (Y1.getD k []).getD c 0 = ent Y1 k c := rfl
    rw [ee]
    refine gBind (finverse_spec hp h7 b1) ?_
    rintro y ⟨hy1, hy2⟩
    have hne : MF p Y1 k c ≠ 0 := by
      rw [hMS]
      have : sw k e k = e := by unfold sw; split <;> simp_all
      rw [this]; exact e4 her
    have hy3 := hy2 hne
    refine gChk ⟨by omega, by omega⟩ ?_
    rw [hS.row k hk]
    refine gBind (scale_spec h7 hn hS hk hy1 _ (fun v v5 => rfl)) ?_
    rintro Y2 ⟨hM2, h2'⟩
    have hl2 := hM2.len
    refine gBind (R := fun Y3 => MOk p r n Y3 ∧ ∀ a, a < r → ∀ b, b < n → MF p Y3 a b = if a = k then MF p Y2 a b else MF p Y2 a b - MF p Y2 a c * MF p Y2 k b) ?_ ?_
    · refine gFor r (fun i (s : List (List Int) × Int) => s.2 = (i : Int) ∧ MOk p r n s.1 ∧ ∀ a, a < r → ∀ b, b < n → MF p s.1 a b = if a ≠ k ∧ a < i then MF p Y2 a b - MF p Y2 a c * MF p Y2 k b else MF p Y2 a b) (Nat.zero_le _) ⟨rfl, hM2, fun a ha b hb => by rw [if_neg (by omega)]⟩ ?_
      rintro i ⟨Z, _⟩ hi ⟨rfl, hZ, hZ2⟩
      dsimp only at hZ hZ2 ⊢
      have hlZ := hZ.len
      refine gIte (fun h3 => ?_) fun h3 => ?_
      rotate_left
      · refine gSome ⟨hZ, fun a ha b hb => ?_⟩
        rw [hZ2 a ha b hb]
        by_cases q : a = k
        · rw [if_pos q, if_neg (fun w => w.1 q)]
        · rw [if_neg q, if_pos ⟨q, by omega⟩]
      have hir : i < r := by omega
      have bz := hZ.bd i hir c hcn
      have ez : (Z.getD i []).getD c 0 = ent Z i c := rfl
      simp only [toNat_nat, ez]
      refine gChk ⟨⟨by omega, by omega⟩, by omega, by rw [hZ.row i hir]; omega⟩ ?_
      have zc : MF p Z i c = MF p Y2 i c := by have := hZ2 i hir c hcn; rw [if_neg (by omega)] at this; exact this
      refine gIte (fun h4 => ?_) fun h4 => ?_
      · refine gSome ⟨hir, by simp, hZ, fun a ha b hb => ?_⟩
        rw [hZ2 a ha b hb]
        by_cases q : a ≠ k ∧ a < i
        · rw [if_pos q, if_pos ⟨q.1, by omega⟩]
        · rw [if_neg q]
          by_cases q2 : a ≠ k ∧ a < i + 1
          · have ai : a = i := by omega
            have z0 : MF p Y2 a c = 0 := by
              rw [ai, ← zc]
              exact (cF_eq0 bz).2 (h4.resolve_left fun w => q2.1 (by omega))
            rw [if_pos q2, z0, fb5]
          · rw [if_neg q2]
      · have hik : i ≠ k := fun w => h4 (.inl (by omega))
        refine gChk ⟨by omega, by omega⟩ ?_
        rw [hZ.row i hir]
        refine gBind (frowop_spec h7 hn hZ hk hir hik bz _ (fun v v7 => rfl)) ?_
        rintro W ⟨hW, hW2⟩
        refine gSome ⟨hir, by simp, hW, fun a ha b hb => ?_⟩
        rw [hW2 a ha b hb]
        by_cases q : a = i
        · have zr : MF p Z k b = MF p Y2 k b := by have := hZ2 k hk b hb; rw [if_neg (fun w => w.1 rfl)] at this; exact this
          have za : MF p Z a b = MF p Y2 a b := by have := hZ2 a ha b hb; rw [if_neg (by omega)] at this; exact this
          rw [if_pos q, if_pos ⟨by rw [q]; exact hik, by omega⟩, za, zr, q]
          have : cF p (ent Z i c) = MF p Y2 i c := zc
          rw [this]
        · rw [if_neg q, hZ2 a ha b hb]
          by_cases q2 : a ≠ k ∧ a < i
          · rw [if_pos q2, if_pos ⟨q2.1, by omega⟩]
          · rw [if_neg q2, if_neg (by omega)]
    · rintro Y3 ⟨hM3, h3'⟩
      refine gChk (by rw [List.length_append, hlen]; simp; omega) (gChk ⟨by omega, by omega⟩ (gSome ⟨hcn, by simp, k + 1, fun i => if i = k then c else h i, ?_, hM3, hG.pivot hcn hk e1 her (fun i hi j hj => hMS i j) hy3 h2' h3'⟩))
      dsimp only
      rw [List.range_succ, List.map_append, hv]
      congr 1
      · exact List.map_congr_left fun i hi => by have := List.mem_range.1 hi; rw [if_neg (by omega)]
      · simp
  · rintro ⟨Y, v⟩ ⟨k, h, hv, hY, c, hG, hce⟩
    dsimp only at hv hY hG ⊢
    have hlen : v.length = k := by rw [hv]; simp
    have hl := hY.len
    have hkr := hG.kr
    simp only [hlen, toNat_nat]
    refine gChk ⟨by omega, by omega⟩ (gChk ⟨by omega, by omega⟩ (gSome ⟨k, h, Y.take k, hkr, by rw [hv], hY.take hkr, (hG.fin hce).1.congr fun i hi j => MF_take hi j, fun w => ?_⟩))
    rw [(hG.fin hce).2]
    constructor
    · intro hw i hi
      rw [Sm_congr fun j hj => by rw [MF_take hi j]]; exact hw i hi
    · intro hw i hi
      rw [Sm_congr fun j hj => by rw [← MF_take (X := Y) hi j]]; exact hw i hi
end
end Go.SH
