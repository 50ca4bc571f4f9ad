/-
  Matrices modulo p whose rows have heads: what is nought with all rows tells them; how many rows there are at least. Package field as it computes: copies, inverses, rows with heads (field.reduced). Package field as it computes: Rank, Reduced, Times, Turned.  Conditions: none.
-/
import Derived.Test.YtdhbpoafkhojnaaLKf

set_option linter.unusedSimpArgs false
set_option linter.unusedVariables false
set_option linter.unusedSectionVars false
namespace Go.SH
open Go Go.AX

section
variable {p : Nat} [NeZero p]
theorem fa1 (a b c : Fin p) : a * (b - c) = a * b - a * c := by grind
theorem fa2 (a b : Fin p) (h : a - b = 0) : a = b := by grind
theorem fa3 (a : Fin p) : a * 1 = a := by grind
theorem fa4 (a : Fin p) : 1 * a = a := by grind
theorem fa5 (a : Fin p) : a * 0 = 0 := by grind
theorem fa6 (a : Fin p) : 0 * a = 0 := by grind
theorem fa7 (a : Fin p) : a - a = 0 := by grind
theorem fa8 (a b : Fin p) : a * b = b * a := by grind
theorem fa9 (a b c : Fin p) : a * b * c = a * (b * c) := by grind
/-- Rows with heads: a head is 1 and stands alone in its column; what is before it is nought. -/
structure Rr (k n : Nat) (h : Nat → Nat) (M : Nat → Nat → Fin p) : Prop where
  inc : ∀ i j, i < j → j < k → h i < h j
  lt : ∀ i, i < k → h i < n
  one : ∀ i, i < k → M i (h i) = 1
  off : ∀ i j, i < k → j < k → i ≠ j → M i (h j) = 0
  low : ∀ i j, i < k → j < h i → M i j = 0
variable {k n : Nat} {h : Nat → Nat} {M : Nat → Nat → Fin p}
theorem Rr.inj (H : Rr k n h M) {i j : Nat} (hi : i < k) (hj : j < k) (e : h i = h j) : i = j := by
  rcases Nat.lt_trichotomy i j with c | c | c
  · have := H.inc i j c hj; omega
  · exact c
  · have := H.inc j i c hi; omega
theorem ind_sum (hlt : ∀ t, t < k → h t < n) (f c : Nat → Fin p) : Sm n (fun l => f l * Sm k (fun t => if l = h t then c t else 0)) = Sm k (fun t => f (h t) * c t) := by
  rw [Sm_congr (g := fun l => Sm k (fun t => f l * (if l = h t then c t else 0))) fun l _ => (Sm_mul _ _ _).symm, Sm_comm]
  refine Sm_congr fun t ht => ?_
  rw [Sm_one (k := h t) (hlt t ht) fun l _ hne => by rw [if_neg hne]; exact fa5 _, if_pos rfl]
theorem Rr.ind (H : Rr k n h M) (c : Nat → Fin p) {s : Nat} (hs : s < k) : Sm k (fun t => if h s = h t then c t else 0) = c s := by
  rw [Sm_one (k := s) hs fun t ht hne => if_neg fun e => hne (H.inj hs ht e).symm, if_pos rfl]
/-- What a column without a head tells. -/
def kv (k : Nat) (h : Nat → Nat) (M : Nat → Nat → Fin p) (j l : Nat) : Fin p := (if l = j then 1 else 0) - Sm k (fun t => if l = h t then M t j else 0)
theorem kv_sum (hlt : ∀ t, t < k → h t < n) {j : Nat} (hj : j < n) (f : Nat → Fin p) : Sm n (fun l => f l * kv k h M j l) = f j - Sm k (fun t => f (h t) * M t j) := by
  rw [← ind_sum hlt f (fun t => M t j)]
  have : f j = Sm n (fun l => f l * (if l = j then 1 else 0)) := by
    rw [Sm_one (k := j) hj fun l _ hne => by rw [if_neg hne]; exact fa5 _, if_pos rfl, fa3]
  rw [this, ← Sm_sub]
  exact Sm_congr fun l _ => fa1 _ _ _
theorem Rr.row (H : Rr k n h M) {i : Nat} (hi : i < k) (c : Nat → Fin p) : Sm k (fun t => M i (h t) * c t) = c i := by
  rw [Sm_one (k := i) hi fun t ht hne => by rw [H.off i t hi ht (Ne.symm hne)]; exact fa6 _, H.one i hi, fa4]
theorem Rr.kv_ker (H : Rr k n h M) {j : Nat} (hj : j < n) : Ker k n M (kv k h M j) := fun i hi => by
  rw [kv_sum H.lt hj, H.row hi (fun t => M t j), fa7]
theorem Rr.lead (H : Rr k n h M) (h1 : (1 : Fin p) ≠ 0) {j : Nat} (hj : j < n) : (∃ t, t < k ∧ h t = j) ↔ ∀ v : Nat → Fin p, Ker k n M v → (∀ l, j < l → l < n → v l = 0) → v j = 0 := by
  constructor
  · rintro ⟨t, ht, rfl⟩ v hv hz
    have := hv t ht
    rw [Sm_one (k := h t) hj fun l hl hne => ?_, H.one t ht, fa4] at this
    · exact this
    · rcases Nat.lt_or_ge l (h t) with c | c
      · rw [H.low t l ht c]; exact fa6 _
      · rw [hz l (by omega) hl]; exact fa5 _
  · intro hall
    apply Classical.byContradiction
    intro hno
    have hne : ∀ t, t < k → j ≠ h t := fun t ht e => hno ⟨t, ht, e.symm⟩
    have e : kv k h M j j = 1 := by
      unfold kv
      rw [if_pos rfl, Sm_zero fun t ht => if_neg (hne t ht)]
      grind
    refine h1 (e ▸ hall _ (H.kv_ker hj) fun l hl _ => ?_)
    unfold kv
    rw [if_neg (by omega), Sm_zero fun t ht => ?_]
    · exact fa7 0
    · by_cases c : l = h t
      · rw [if_pos c]; exact H.low t j ht (by omega)
      · rw [if_neg c]
theorem seq_le {k k' : Nat} {h h' : Nat → Nat} (i1 : ∀ i j, i < j → j < k → h i < h j) (i2 : ∀ i j, i < j → j < k' → h' i < h' j) (hs : ∀ t, t < k → ∃ t', t' < k' ∧ h' t' = h t) : k ≤ k' ∧ ∀ t, t < k → h' t ≤ h t := by
  have mono : ∀ i j, i ≤ j → j < k' → h' i ≤ h' j := fun i j hij hj => by
    rcases Nat.lt_or_ge i j with c | c
    · exact Nat.le_of_lt (i2 i j c hj)
    · rw [show i = j by omega]; exact Nat.le_refl _
  have key : ∀ t, t < k → ∃ t', t ≤ t' ∧ t' < k' ∧ h' t' = h t := by
    intro t
    induction t with
    | zero => exact fun h0 => let ⟨t', a, b⟩ := hs 0 h0; ⟨t', Nat.zero_le _, a, b⟩
    | succ t ih =>
      intro ht
      obtain ⟨u, u1, u2, u3⟩ := ih (by omega)
      obtain ⟨t', a, b⟩ := hs (t + 1) ht
      have h1 := i1 t (t + 1) (by omega) ht
      refine ⟨t', ?_, a, b⟩
      rcases Nat.lt_or_ge u t' with c | c
      · omega
      · have := mono t' u c u2; omega
  refine ⟨?_, fun t ht => ?_⟩
  · rcases Nat.eq_zero_or_pos k with c | c
    · omega
    · obtain ⟨t', a, b, _⟩ := key (k - 1) (by omega); omega
  · obtain ⟨t', a, b, c⟩ := key t ht
    rw [← c]; exact mono t t' a b
variable {k' : Nat} {h' : Nat → Nat} {M' : Nat → Nat → Fin p}
theorem Rr.heads (H : Rr k n h M) (H' : Rr k' n h' M') (h1 : (1 : Fin p) ≠ 0) (hk : ∀ v, Ker k n M v → Ker k' n M' v) : ∀ t, t < k' → ∃ s, s < k ∧ h s = h' t := fun t ht =>
  (H.lead h1 (H'.lt t ht)).2 fun v hv hz => (H'.lead h1 (H'.lt t ht)).1 ⟨t, ht, rfl⟩ v (hk v hv) hz
/-- What has more that is nought with it has fewer rows. -/
theorem Rr.le (H : Rr k n h M) (H' : Rr k' n h' M') (h1 : (1 : Fin p) ≠ 0) (hk : ∀ v, Ker k n M v → Ker k' n M' v) : k' ≤ k :=
  (seq_le H'.inc H.inc (H.heads H' h1 hk)).1
/-- Rows with heads are told by what is nought with them. -/
theorem Rr.same (H : Rr k n h M) (H' : Rr k' n h' M') (h1 : (1 : Fin p) ≠ 0) (hk : ∀ v, Ker k n M v ↔ Ker k' n M' v) : k = k' ∧ (∀ i, i < k → h i = h' i) ∧ ∀ i, i < k → ∀ j, j < n → M i j = M' i j := by
  obtain ⟨a1, a2⟩ := seq_le H'.inc H.inc (H.heads H' h1 fun v => (hk v).1)
  obtain ⟨b1, b2⟩ := seq_le H.inc H'.inc (H'.heads H h1 fun v => (hk v).2)
  have e : k = k' := by omega
  subst e
  have eh : ∀ i, i < k → h i = h' i := fun i hi => by have := a2 i hi; have := b2 i hi; omega
  refine ⟨rfl, eh, fun i hi j hj => ?_⟩
  have := (hk _).1 (H.kv_ker hj) i hi
  rw [kv_sum H.lt hj, Sm_congr (g := fun t => M' i (h' t) * M t j) fun t ht => by rw [eh t ht], H'.row hi (fun t => M t j)] at this
  exact (fa2 _ _ this).symm
/-- A row with which nought is what is nought with all rows hangs on them. -/
theorem Rr.span (H : Rr k n h M) {f : Nat → Fin p} (hf : ∀ v, Ker k n M v → Sm n (fun l => f l * v l) = 0) {j : Nat} (hj : j < n) : f j = Sm k (fun t => f (h t) * M t j) := by
  have := hf _ (H.kv_ker hj)
  rw [kv_sum H.lt hj] at this
  exact fa2 _ _ this
/-- No fewer rows tell as much. -/
theorem Rr.least (H : Rr k n h M) (hp : Fld p) {a : Nat} {Z : Nat → Nat → Fin p} (hZ : ∀ v, Ker a n Z v → Ker k n M v) : k ≤ a := by
  apply Classical.byContradiction
  intro hlt
  obtain ⟨c, ⟨s, s1, s2⟩, c2⟩ := nontriv hp a k (fun t q => Z q (h t)) (by omega)
  refine s2 ?_
  have hk : Ker k n M (fun l => Sm k (fun t => if l = h t then c t else 0)) := hZ _ fun q hq => by
    rw [ind_sum H.lt (fun l => Z q l) c, ← c2 q hq]
    exact Sm_congr fun t _ => fa8 _ _
  have := hk s s1
  rw [ind_sum H.lt (fun l => M s l) c, H.row s1 c] at this
  exact this
end
end Go.SH

set_option linter.unusedSimpArgs false
set_option linter.unusedVariables false
set_option linter.unusedSectionVars false
namespace Go.SH
open Go Go.AX

section
variable {p : Nat} [NeZero p]
theorem fb1 (a b c : Fin p) : a * (b * c) = a * b * c := by grind
theorem fb2 (a b c d : Fin p) : a * b * c = a * c * b := by grind
theorem fb3 (a b t x : Fin p) : a + (0 - b) * x = a - b * x := by grind
theorem fb4 (a : Fin p) : a - 0 * a = a := by grind
theorem fb5 (a b : Fin p) : a - 0 * b = a := by grind
theorem fb6 (a b : Fin p) : a - b * 0 = a := by grind
theorem fb7 (a : Fin p) : a - a * 1 = 0 := by grind
theorem fb8 (a b : Fin p) (h : b = 0) : a * b = 0 := by grind
theorem field_twin_spec {r n : Nat} {X : List (List Int)} (hX : MOk p r n X) (hr : r ≤ 6) (hn : n ≤ 8) (P C : Int) : Gets (field_twin P C X) (fun y => y = (P, C, X)) := by
  have hl := hX.len
  unfold field_twin
  refine gBind (R := fun o => o = X) (gFor r (fun k (x : List (List Int) × Int) => x.2 = (k : Int) ∧ x.1 = X.take k) (Nat.zero_le _) ⟨rfl, rfl⟩ ?_) ?_
  · rintro k ⟨_, _⟩ hk ⟨rfl, rfl⟩
    simp only [toNat_nat]
    refine gIte (fun h1 => ?_) fun h1 => gSome (List.take_of_length_le (by omega))
    have hkr : k < r := by omega
    have hrow := hX.row k hkr
    have e : X.take (k + 1) = X.take k ++ [X.getD k []] := by
      rw [List.getD_eq_getElem?_getD, List.getElem?_eq_getElem (show k < X.length by omega)]
      exact List.take_succ_eq_append_getElem (by omega)
    refine gChk ⟨by omega, by omega⟩ (gChk (by omega) (gChk (by rw [← e, List.length_take]; omega) (gSome ⟨hkr, by simp, e.symm⟩)))
  · rintro _ rfl
    exact gSome rfl
theorem finverse_spec (hp : Fld p) (h7 : p ≤ 7) {a : Int} (ha : 0 ≤ a ∧ a < p) : Gets (field_inverse a p) (fun f => (0 ≤ f ∧ f < p) ∧ (cF p a ≠ 0 → cF p f * cF p a = 1)) := by
  have hp0 : 0 < p := Nat.pos_of_ne_zero (NeZero.ne p)
  have hp1 : 1 < p := by
    rcases Nat.lt_or_ge 1 p with c | c
    · exact c
    · exfalso
      have e : p = 1 := by omega
      subst e
      exact hp.one (by apply Fin.ext; omega)
  have one : ∀ b : Nat, b < p → (Int.tmod (a * b) p = 1 ↔ cF p (b : Int) * cF p a = 1) := fun b hb => by
    have hm := mul_bd7 ha.1 (by omega) (show (0 : Int) ≤ b by omega) (by omega)
    have e : cF p (Int.tmod (a * b) p) = cF p (b : Int) * cF p a := by
      rw [cF_tmod hm.1, cF_mul]; exact mulc _ _
    rw [← e, ← cF_one hp1, cF_eq (tmod_bd hm.1) ⟨by omega, by omega⟩]
  unfold field_inverse
  refine gBind (R := fun z : Unit ⊕ Int => match z with | .inl _ => cF p a = 0 | .inr f => (0 ≤ f ∧ f < p) ∧ (cF p a ≠ 0 → cF p f * cF p a = 1)) (gFor p (fun k (v : Int) => v = (k : Int) ∧ 1 ≤ k ∧ ∀ b : Nat, b < k → Int.tmod (a * b) p ≠ 1) (show 1 ≤ p by omega) ⟨rfl, Nat.le_refl _, fun b hb => by rw [show b = 0 by omega]; simp⟩ ?_) ?_
  · rintro k v hk ⟨rfl, hk1, hb⟩
    refine gIte (fun h1 => ?_) fun h1 => ?_
    · have hm := mul_bd7 ha.1 (by omega) (show (0 : Int) ≤ k by omega) (by omega)
      refine gChk ⟨by omega, by omega⟩ (gIte (fun h2 => ?_) fun h2 => ?_)
      · exact gSome ⟨by omega, fun _ => (one k (by omega)).1 h2⟩
      · refine gSome ⟨by omega, by simp, by omega, fun b hb' => ?_⟩
        rcases Nat.lt_succ_iff_lt_or_eq.1 hb' with c | c
        · exact hb b c
        · subst c; exact h2
    · refine gSome ?_
      refine Classical.byContradiction fun hne => ?_
      obtain ⟨b, hb2⟩ := hp.inv _ hne
      refine hb b.val (by have := b.isLt; omega) ((one b.val b.isLt).2 ?_)
      rw [cF_fin, mulc]; exact hb2
  · rintro (_ | f) hz
    · exact gSome ⟨⟨by omega, by omega⟩, fun h => absurd hz h⟩
    · exact gSome hz

/-- A row times a number. -/
theorem scale_spec {r n rk : Nat} {Y : List (List Int)} {y : Int} (h7 : p ≤ 7) (hn8 : n ≤ 8) (hY : MOk p r n Y) (hrk : rk < r) (hy : 0 ≤ y ∧ y < p) :
    ∀ f : List (List Int) × Int → Option ((List (List Int) × Int) ⊕ List (List Int)), (∀ v v5, f (v, v5) = (if v5 < (n : Int) then
      chk ((0 ≤ (rk : Int) ∧ (rk : Int) < v.length) ∧ (0 ≤ v5 ∧ v5 < ((v.getD rk []).length)) ∧ (-9223372036854775808 ≤ (((v.getD rk []).getD v5.toNat 0) * y : Int) ∧ (((v.getD rk []).getD v5.toNat 0) * y : Int) ≤ 9223372036854775807) ∧ (p : Int) ≠ 0) <|
      some (.inl (v.set rk ((v.getD rk []).set v5.toNat (Int.tmod (((v.getD rk []).getD v5.toNat 0) * y) p)), v5 + 1))
      else some (.inr v))) →
    Gets (loopM f (Y, 0)) (fun Z => MOk p r n Z ∧ ∀ a, a < r → ∀ b, b < n → MF p Z a b = if a = rk then MF p Y a b * cF p y else MF p Y a b) := by
  intro f hf
  refine gFor n (fun k (x : List (List Int) × Int) => x.2 = (k : Int) ∧ MOk p r n x.1 ∧ ∀ a, a < r → ∀ b, b < n → MF p x.1 a b = if a = rk ∧ b < k then MF p Y a b * cF p y else MF p Y a b) (Nat.zero_le _) ⟨rfl, hY, fun a ha b hb => by rw [if_neg (by omega)]⟩ ?_
  rintro k ⟨v, _⟩ hk ⟨rfl, h2, h3⟩
  dsimp only at h2 h3
  rw [hf]
  have hl := h2.len
  have er : ∀ j, (v.getD rk []).getD j 0 = ent v rk j := fun _ => rfl
  simp only [toNat_nat, hl, h2.row rk hrk, er]
  refine gIte (fun h4 => ?_) fun h4 => ?_
  · have hkn : k < n := by omega
    have br := h2.bd rk hrk k hkn
    have m1 := mul_bd7 br.1 (by omega) hy.1 (by omega)
    refine gChk ⟨⟨by omega, by omega⟩, ⟨by omega, by omega⟩, ⟨by omega, by omega⟩, by omega⟩ (gSome ⟨hkn, by simp, h2.put hrk hkn (tmod_bd m1.1), fun a ha b hb => ?_⟩)
    rw [MF_put h2 hrk hkn]
    by_cases q : a = rk ∧ b = k
    · obtain ⟨rfl, rfl⟩ := q
      rw [if_pos ⟨rfl, rfl⟩, if_pos ⟨rfl, by omega⟩, cF_tmod m1.1, cF_mul]
      have e1 : cF p (ent v a b) = MF p Y a b := by have := h3 a ha b hb; rw [if_neg (by omega)] at this; exact this
      rw [e1]
    · rw [if_neg q, h3 a ha b hb]
      by_cases q2 : a = rk ∧ b < k
      · rw [if_pos q2, if_pos ⟨q2.1, by omega⟩]
      · rw [if_neg q2, if_neg (fun h => by
          rcases Nat.lt_succ_iff_lt_or_eq.1 h.2 with d | d
          · exact q2 ⟨h.1, d⟩
          · exact q ⟨h.1, d⟩)]
  · refine gSome ⟨h2, fun a ha b hb => ?_⟩
    rw [h3 a ha b hb]
    by_cases q : a = rk
    · rw [if_pos q, if_pos ⟨q, by omega⟩]
    · rw [if_neg q, if_neg (fun h => q h.1)]
/-- A row without a multiple of another row. -/
theorem frowop_spec {r n rk i : Nat} {Y : List (List Int)} {T : Int} (h7 : p ≤ 7) (hn8 : n ≤ 8) (hY : MOk p r n Y) (hrk : rk < r) (hi : i < r) (hne : i ≠ rk) (hT : 0 ≤ T ∧ T < p) :
    ∀ f : List (List Int) × Int → Option ((List (List Int) × Int) ⊕ List (List Int)), (∀ v v7, f (v, v7) = (if v7 < (n : Int) then
      chk ((0 ≤ (i : Int) ∧ (i : Int) < v.length) ∧ (0 ≤ v7 ∧ v7 < ((v.getD i []).length)) ∧ (-9223372036854775808 ≤ ((p : Int) - T : Int) ∧ ((p : Int) - T : Int) ≤ 9223372036854775807) ∧ (0 ≤ (rk : Int) ∧ (rk : Int) < v.length) ∧ (0 ≤ v7 ∧ v7 < ((v.getD rk []).length)) ∧ (-9223372036854775808 ≤ (((p : Int) - T) * ((v.getD rk []).getD v7.toNat 0) : Int) ∧ (((p : Int) - T) * ((v.getD rk []).getD v7.toNat 0) : Int) ≤ 9223372036854775807) ∧ (-9223372036854775808 ≤ (((v.getD i []).getD v7.toNat 0) + (((p : Int) - T) * ((v.getD rk []).getD v7.toNat 0)) : Int) ∧ (((v.getD i []).getD v7.toNat 0) + (((p : Int) - T) * ((v.getD rk []).getD v7.toNat 0)) : Int) ≤ 9223372036854775807) ∧ (p : Int) ≠ 0) <|
      chk ((-9223372036854775808 ≤ (v7 + 1 : Int) ∧ (v7 + 1 : Int) ≤ 9223372036854775807)) <|
      some (.inl (v.set i ((v.getD i []).set v7.toNat (Int.tmod (((v.getD i []).getD v7.toNat 0) + (((p : Int) - T) * ((v.getD rk []).getD v7.toNat 0))) p)), v7 + 1))
      else some (.inr v))) →
    Gets (loopM f (Y, 0)) (fun Z => MOk p r n Z ∧ ∀ a, a < r → ∀ b, b < n → MF p Z a b = if a = i then MF p Y a b - cF p T * MF p Y rk b else MF p Y a b) := by
  intro f hf
  refine gFor n (fun k (x : List (List Int) × Int) => x.2 = (k : Int) ∧ MOk p r n x.1 ∧ ∀ a, a < r → ∀ b, b < n → MF p x.1 a b = if a = i ∧ b < k then MF p Y a b - cF p T * MF p Y rk b else MF p Y a b) (Nat.zero_le _) ⟨rfl, hY, fun a ha b hb => by rw [if_neg (by omega)]⟩ ?_
  rintro k ⟨v, _⟩ hk ⟨rfl, h2, h3⟩
  dsimp only at h2 h3
  rw [hf]
  have hl := h2.len
  have ei : ∀ j, (v.getD i []).getD j 0 = ent v i j := fun _ => rfl
  have er : ∀ j, (v.getD rk []).getD j 0 = ent v rk j := fun _ => rfl
  simp only [toNat_nat, hl, h2.row i hi, h2.row rk hrk, ei, er]
  refine gIte (fun h4 => ?_) fun h4 => ?_
  · have hkn : k < n := by omega
    have bi := h2.bd i hi k hkn
    have br := h2.bd rk hrk k hkn
    have m1 := mul_bd7 (a := (p : Int) - T) (by omega) (by omega) br.1 (by omega)
    refine gChk ⟨⟨by omega, by omega⟩, ⟨by omega, by omega⟩, ⟨by omega, by omega⟩, ⟨by omega, by omega⟩, ⟨by omega, by omega⟩, ⟨by omega, by omega⟩, ⟨by omega, by omega⟩, by omega⟩ ?_
    have hpos : 0 ≤ ent v i k + ((p : Int) - T) * ent v rk k := by omega
    refine gChk ⟨by omega, by omega⟩ (gSome ⟨hkn, by simp, h2.put hi hkn (tmod_bd hpos), fun a ha b hb => ?_⟩)
    rw [MF_put h2 hi hkn]
    by_cases q : a = i ∧ b = k
    · obtain ⟨rfl, rfl⟩ := q
      rw [if_pos ⟨rfl, rfl⟩, if_pos ⟨rfl, by omega⟩, cF_tmod hpos, cF_add, cF_mul, cF_sub, cF_self]
      have e1 : cF p (ent v a b) = MF p Y a b := by have := h3 a ha b hb; rw [if_neg (by omega)] at this; exact this
      have e2 : cF p (ent v rk b) = MF p Y rk b := by have := h3 rk hrk b hb; rw [if_neg (fun h => hne h.1.symm)] at this; exact this
      rw [e1, e2]; exact fb3 _ _ 0 _
    · rw [if_neg q, h3 a ha b hb]
      by_cases q2 : a = i ∧ b < k
      · rw [if_pos q2, if_pos ⟨q2.1, by omega⟩]
      · rw [if_neg q2, if_neg (fun h => by
          rcases Nat.lt_succ_iff_lt_or_eq.1 h.2 with d | d
          · exact q2 ⟨h.1, d⟩
          · exact q ⟨h.1, d⟩)]
  · refine gSome ⟨h2, fun a ha b hb => ?_⟩
    rw [h3 a ha b hb]
    by_cases q : a = i
    · rw [if_pos q, if_pos ⟨q, by omega⟩]
    · rw [if_neg q, if_neg (fun h => q h.1)]
/-- What has been done of a matrix: k heads before column c. -/
structure GJ (r n k : Nat) (h : Nat → Nat) (c : Nat) (X M : Nat → Nat → Fin p) : Prop where
  ker : ∀ w, Ker r n X w ↔ Ker r n M w
  kr : k ≤ r
  cn : c ≤ n
  inc : ∀ i j, i < j → j < k → h i < h j
  lt : ∀ i, i < k → h i < c
  one : ∀ i, i < k → M i (h i) = 1
  off : ∀ i a, i < k → a < r → a ≠ i → M a (h i) = 0
  low : ∀ i j, i < k → j < h i → M i j = 0
  rest : ∀ a j, k ≤ a → a < r → j < c → M a j = 0
theorem ker_scale {r n k : Nat} {M M' : Nat → Nat → Fin p} {y b : Fin p} (hk : k < r) (hy : y * b = 1) (h : ∀ i, i < r → ∀ j, j < n → M' i j = if i = k then M i j * y else M i j) (v : Nat → Fin p) : Ker r n M' v ↔ Ker r n M v := by
  have e : ∀ i, i < r → Sm n (fun j => M' i j * v j) = if i = k then Sm n (fun j => M i j * v j) * y else Sm n (fun j => M i j * v j) := fun i hi => by
    by_cases q : i = k
    · rw [if_pos q, ← Sm_mulr]
      exact Sm_congr fun j hj => by rw [h i hi j hj, if_pos q]; exact fb2 _ _ _ 0
    · rw [if_neg q]
      exact Sm_congr fun j hj => by rw [h i hi j hj, if_neg q]
  constructor
  · intro hv i hi
    have := hv i hi
    rw [e i hi] at this
    by_cases q : i = k
    · rw [if_pos q] at this
      exact ks _ _ _ this hy
    · rw [if_neg q] at this; exact this
  · intro hv i hi
    rw [e i hi]
    have := hv i hi
    by_cases q : i = k
    · rw [if_pos q, this]; exact fa6 _
    · rw [if_neg q]; exact this
where
  ks (a y b : Fin p) (h : a * y = 0) (h2 : y * b = 1) : a = 0 := by grind
theorem GJ.skip {r n k c : Nat} {h : Nat → Nat} {X M : Nat → Nat → Fin p} (H : GJ r n k h c X M) (hc : c < n) (hz : ∀ a, k ≤ a → a < r → M a c = 0) : GJ r n k h (c + 1) X M := by
  refine ⟨H.ker, H.kr, hc, H.inc, fun i hi => Nat.lt_succ_of_lt (H.lt i hi), H.one, H.off, H.low, fun a j h1 h2 h3 => ?_⟩
  rcases Nat.lt_succ_iff_lt_or_eq.1 h3 with q | q
  · exact H.rest a j h1 h2 q
  · subst q; exact hz a h1 h2
theorem GJ.pivot {r n k c e : Nat} {h : Nat → Nat} {X M M1 M2 M3 : Nat → Nat → Fin p} {y : Fin p} (H : GJ r n k h c X M) (hc : c < n) (hk : k < r) (he : k ≤ e) (her : e < r)
    (h1 : ∀ i, i < r → ∀ j, j < n → M1 i j = M (sw k e i) j) (hy : y * M1 k c = 1) (h2 : ∀ i, i < r → ∀ j, j < n → M2 i j = if i = k then M1 i j * y else M1 i j)
    (h3 : ∀ i, i < r → ∀ j, j < n → M3 i j = if i = k then M2 i j else M2 i j - M2 i c * M2 k j) : GJ r n (k + 1) (fun i => if i = k then c else h i) (c + 1) X M3 := by
  have swr : ∀ i, i < r → sw k e i < r := fun i hi => sw_lt hk her hi
  have swk : ∀ i, i < k → sw k e i = i := fun i hi => by unfold sw; rw [if_neg (by omega), if_neg (by omega)]
  have swg : ∀ i, k ≤ i → i < r → k ≤ sw k e i := fun i hi hr => by unfold sw; split <;> (try split) <;> omega
  have hltc : ∀ i, i < k → h i < n := fun i hi => Nat.lt_trans (H.lt i hi) hc
  -- the pivot's row
  have r1 : ∀ j, j < c → M2 k j = 0 := fun j hj => by
    rw [h2 k hk j (by omega), if_pos rfl, h1 k hk j (by omega), H.rest _ j (swg k (Nat.le_refl _) hk) (swr k hk) hj]; exact fa6 _
  have r2 : M2 k c = 1 := by rw [h2 k hk c hc, if_pos rfl, fa8]; exact hy
  have off1 : ∀ i a, i < k → a < r → a ≠ i → M2 a (h i) = 0 := fun i a hi ha hne => by
    have : M1 a (h i) = 0 := by
      rw [h1 a ha (h i) (hltc i hi)]
      refine H.off i _ hi (swr a ha) fun q => ?_
      rcases Nat.lt_or_ge a k with w | w
      · rw [swk a w] at q; exact hne q
      · have := swg a w ha; omega
    rw [h2 a ha (h i) (hltc i hi), this]
    split
    · exact fa6 _
    · rfl
  have same : ∀ i j, i < k → j < n → M2 i j = M i j := fun i j hi hj => by
    rw [h2 i (by omega) j hj, if_neg (by omega), h1 i (by omega) j hj, swk i hi]
  refine ⟨fun w => ?_, hk, hc, fun i j hij hj => ?_, fun i hi => ?_, fun i hi => ?_, fun i a hi ha hne => ?_, fun i j hi hj => ?_, fun a j ha har hj => ?_⟩
  · rw [H.ker, ← ker_sw hk her h1 w, ← ker_scale hk hy h2 w]
    refine (ker_sub (t := fun i => if i = k then 0 else M2 i c) hk (if_pos rfl) (fun i hi j hj => ?_) w).symm
    rw [h3 i hi j hj]
    by_cases q : i = k
    · rw [if_pos q, if_pos q, fb5]
    · rw [if_neg q, if_neg q]
  · by_cases q : j = k
    · rw [if_pos q, if_neg (by omega)]; exact H.lt i (by omega)
    · rw [if_neg q, if_neg (by omega)]; exact H.inc i j hij (by omega)
  · by_cases q : i = k
    · rw [if_pos q]; omega
    · rw [if_neg q]; have := H.lt i (by omega); omega
  · by_cases q : i = k
    · rw [if_pos q, h3 i (by omega) c hc, if_pos q, q, r2]
    · have hik : i < k := by omega
      rw [if_neg q, h3 i (by omega) _ (hltc i hik), if_neg q, off1 i k hik hk (by omega), same i _ hik (hltc i hik), H.one i hik, fb6]
  · by_cases q : i = k
    · rw [if_pos q, h3 a ha c hc, if_neg (by omega), r2, fb7]
    · have hik : i < k := by omega
      rw [if_neg q, h3 a ha _ (hltc i hik)]
      by_cases w : a = k
      · rw [if_pos w]; exact off1 i a hik ha hne
      · rw [if_neg w, off1 i a hik ha hne, off1 i k hik hk (by omega), fb6]
  · by_cases q : i = k
    · rw [if_pos q] at hj
      rw [h3 i (by omega) j (by omega), if_pos q, q]; exact r1 j hj
    · have hik : i < k := by omega
      rw [if_neg q] at hj
      have := H.lt i hik
      rw [h3 i (by omega) j (by omega), if_neg q, r1 j (by omega), fb6, same i j hik (by omega)]
      exact H.low i j hik hj
  · rw [h3 a har j (by omega), if_neg (by omega)]
    rcases Nat.lt_succ_iff_lt_or_eq.1 hj with w | w
    · rw [r1 j w, fb6, h2 a har j (by omega), if_neg (by omega), h1 a har j (by omega)]
      exact H.rest _ j (swg a (by omega) har) (swr a har) w
    · subst w; rw [r2, fb7]
theorem GJ.fin {r n k c : Nat} {h : Nat → Nat} {X M : Nat → Nat → Fin p} (H : GJ r n k h c X M) (he : c = n ∨ k = r) : Rr k n h M ∧ ∀ w, Ker r n X w ↔ Ker k n M w := by
  refine ⟨⟨H.inc, fun i hi => Nat.lt_of_lt_of_le (H.lt i hi) H.cn, H.one, fun i j hi hj hne => H.off j i hj (Nat.lt_of_lt_of_le hi H.kr) hne, H.low⟩, fun w => ?_⟩
  rw [H.ker]
  constructor
  · exact fun hv i hi => hv i (Nat.lt_of_lt_of_le hi H.kr)
  · intro hv i hi
    rcases Nat.lt_or_ge i k with q | q
    · exact hv i q
    · rcases he with rfl | rfl
      · exact Sm_zero fun j hj => by rw [H.rest i j q hi hj]; exact fa6 _
      · omega
theorem Rr.congr {k n : Nat} {h : Nat → Nat} {M M' : Nat → Nat → Fin p} (e : ∀ i, i < k → ∀ j, M' i j = M i j) (H : Rr k n h M) : Rr k n h M' :=
  ⟨H.inc, H.lt, fun i hi => by rw [e i hi]; exact H.one i hi, fun i j hi hj hne => by rw [e i hi]; exact H.off i j hi hj hne, fun i j hi hj => by rw [e i hi]; exact H.low i j hi hj⟩
theorem getD_take {X : List (List Int)} {k i : Nat} (hi : i < k) : (X.take k).getD i [] = X.getD i [] := by
  rw [List.getD_eq_getElem?_getD, List.getElem?_take_of_lt hi, ← List.getD_eq_getElem?_getD]
theorem MOk.take {r n k : Nat} {X : List (List Int)} (hX : MOk p r n X) (hk : k ≤ r) : MOk p k n (X.take k) := by
  have hl := hX.len
  refine ⟨by rw [List.length_take]; omega, fun i hi => by rw [getD_take hi]; exact hX.row i (by omega), fun i hi j hj => ?_⟩
  have := hX.bd i (by omega) j hj
  unfold ent at this ⊢
  rw [getD_take hi]; exact this
theorem MF_take {X : List (List Int)} {k i : Nat} (hi : i < k) (j : Nat) : MF p (X.take k) i j = MF p X i j := by unfold MF ent; rw [getD_take hi]
theorem field_reduced_spec (hp : Fld p) (h7 : p ≤ 7) {r n : Nat} {X : List (List Int)} (hX : MOk p r n X) (hr : r ≤ 6) (hn : n ≤ 8) :
    Gets (field_reduced ((p : Int), (n : Int), X)) (fun y => ∃ (k : Nat) (h : Nat → Nat) (Y : List (List Int)), k ≤ r ∧ y = ((List.range k).map (fun i => ((h i : Nat) : Int)), ((p : Int), (n : Int), Y)) ∧ MOk p k n Y ∧ Rr k n h (MF p Y) ∧ ∀ w, Ker r n (MF p X) w ↔ Ker k n (MF p Y) w) := by
  unfold field_reduced
  dsimp only
  refine gBind (R := fun z : List (List Int) × List Int => ∃ (k : Nat) (h : Nat → Nat), z.2 = (List.range k).map (fun i => ((h i : Nat) : Int)) ∧ MOk p r n z.1 ∧ ∃ c, GJ r n k h c (MF p X) (MF p z.1) ∧ (c = n ∨ k = r))
    (gFor n (fun c (s : List (List Int) × List Int × Int) => s.2.2 = (c : Int) ∧ ∃ (k : Nat) (h : Nat → Nat), s.2.1 = (List.range k).map (fun i => ((h i : Nat) : Int)) ∧ MOk p r n s.1 ∧ GJ r n k h c (MF p X) (MF p s.1)) (Nat.zero_le _)
      ⟨rfl, 0, fun _ => 0, rfl, hX, ⟨fun w => Iff.rfl, Nat.zero_le _, Nat.zero_le _, fun i j _ h => by omega, fun i h => by omega, fun i h => by omega, fun i a h => by omega, fun i j h => by omega, fun a j _ _ h => by omega⟩⟩ ?_) ?_
  · rintro c ⟨Y, v, _⟩ hc ⟨rfl, k, h, hv, hY, hG⟩
    dsimp only at hv hY hG ⊢
    have hlen : v.length = k := by rw [hv]; simp
    have hl := hY.len
    have hkr := hG.kr
    simp only [hlen]
    refine gIte (fun h1 => ?_) fun h1 => gSome ⟨k, h, hv, hY, c, hG, by omega⟩
    have hcn : c < n := by omega
    have hk : k < r := by omega
    refine gBind (search_spec hY hcn hkr _ (fun v => rfl) hr) ?_
    rintro _ ⟨e, rfl, e1, e2, e3, e4⟩
    refine gIte (fun h2 => ?_) fun h2 => ?_
    · exact gChk ⟨by omega, by omega⟩ (gSome ⟨hcn, by simp, k, h, hv, hY, hG.skip hcn fun a ha har => e3 a ha (by omega)⟩)
    have her : e < r := by omega
    simp only [toNat_nat]
    have hS := hY.swap hk her
    have hMS := MF_swap hY hk her
    obtain ⟨Y1, hY1⟩ : ∃ Y1, Y1 = (Y.set k (Y.getD e [])).set e (Y.getD k []) := ⟨_, rfl⟩
    rw [← hY1] at hS hMS ⊢
    have hl1 := hS.len
    have b1 := hS.bd k hk c hcn
    refine gChk ⟨by omega, by omega⟩ (gChk ⟨by omega, by omega⟩ (gChk ⟨by omega, by omega⟩ (gChk ⟨by omega, by omega⟩ (gChk ⟨⟨by omega, by omega⟩, by omega, by rw [hS.row k hk]; omega⟩ ?_))))
    have ee : (Y1.getD k []).getD c 0 = ent Y1 k c := rfl
    rw [ee]
    refine gBind (finverse_spec hp h7 b1) ?_
    rintro y ⟨hy1, hy2⟩
    have hne : MF p Y1 k c ≠ 0 := by
      rw [hMS]
      have : sw k e k = e := by unfold sw; split <;> simp_all
      rw [this]; exact e4 her
    have hy3 := hy2 hne
    refine gChk ⟨by omega, by omega⟩ ?_
    rw [hS.row k hk]
    refine gBind (scale_spec h7 hn hS hk hy1 _ (fun v v5 => rfl)) ?_
    rintro Y2 ⟨hM2, h2'⟩
    have hl2 := hM2.len
    refine gBind (R := fun Y3 => MOk p r n Y3 ∧ ∀ a, a < r → ∀ b, b < n → MF p Y3 a b = if a = k then MF p Y2 a b else MF p Y2 a b - MF p Y2 a c * MF p Y2 k b) ?_ ?_
    · refine gFor r (fun i (s : List (List Int) × Int) => s.2 = (i : Int) ∧ MOk p r n s.1 ∧ ∀ a, a < r → ∀ b, b < n → MF p s.1 a b = if a ≠ k ∧ a < i then MF p Y2 a b - MF p Y2 a c * MF p Y2 k b else MF p Y2 a b) (Nat.zero_le _) ⟨rfl, hM2, fun a ha b hb => by rw [if_neg (by omega)]⟩ ?_
      rintro i ⟨Z, _⟩ hi ⟨rfl, hZ, hZ2⟩
      dsimp only at hZ hZ2 ⊢
      have hlZ := hZ.len
      refine gIte (fun h3 => ?_) fun h3 => ?_
      rotate_left
      · refine gSome ⟨hZ, fun a ha b hb => ?_⟩
        rw [hZ2 a ha b hb]
        by_cases q : a = k
        · rw [if_pos q, if_neg (fun w => w.1 q)]
        · rw [if_neg q, if_pos ⟨q, by omega⟩]
      have hir : i < r := by omega
      have bz := hZ.bd i hir c hcn
      have ez : (Z.getD i []).getD c 0 = ent Z i c := rfl
      simp only [toNat_nat, ez]
      refine gChk ⟨⟨by omega, by omega⟩, by omega, by rw [hZ.row i hir]; omega⟩ ?_
      have zc : MF p Z i c = MF p Y2 i c := by have := hZ2 i hir c hcn; rw [if_neg (by omega)] at this; exact this
      refine gIte (fun h4 => ?_) fun h4 => ?_
      · refine gSome ⟨hir, by simp, hZ, fun a ha b hb => ?_⟩
        rw [hZ2 a ha b hb]
        by_cases q : a ≠ k ∧ a < i
        · rw [if_pos q, if_pos ⟨q.1, by omega⟩]
        · rw [if_neg q]
          by_cases q2 : a ≠ k ∧ a < i + 1
          · have ai : a = i := by omega
            have z0 : MF p Y2 a c = 0 := by
              rw [ai, ← zc]
              exact (cF_eq0 bz).2 (h4.resolve_left fun w => q2.1 (by omega))
            rw [if_pos q2, z0, fb5]
          · rw [if_neg q2]
      · have hik : i ≠ k := fun w => h4 (.inl (by omega))
        refine gChk ⟨by omega, by omega⟩ ?_
        rw [hZ.row i hir]
        refine gBind (frowop_spec h7 hn hZ hk hir hik bz _ (fun v v7 => rfl)) ?_
        rintro W ⟨hW, hW2⟩
        refine gSome ⟨hir, by simp, hW, fun a ha b hb => ?_⟩
        rw [hW2 a ha b hb]
        by_cases q : a = i
        · have zr : MF p Z k b = MF p Y2 k b := by have := hZ2 k hk b hb; rw [if_neg (fun w => w.1 rfl)] at this; exact this
          have za : MF p Z a b = MF p Y2 a b := by have := hZ2 a ha b hb; rw [if_neg (by omega)] at this; exact this
          rw [if_pos q, if_pos ⟨by rw [q]; exact hik, by omega⟩, za, zr, q]
          have : cF p (ent Z i c) = MF p Y2 i c := zc
          rw [this]
        · rw [if_neg q, hZ2 a ha b hb]
          by_cases q2 : a ≠ k ∧ a < i
          · rw [if_pos q2, if_pos ⟨q2.1, by omega⟩]
          · rw [if_neg q2, if_neg (by omega)]
    · rintro Y3 ⟨hM3, h3'⟩
      refine gChk (by rw [List.length_append, hlen]; simp; omega) (gChk ⟨by omega, by omega⟩ (gSome ⟨hcn, by simp, k + 1, fun i => if i = k then c else h i, ?_, hM3, hG.pivot hcn hk e1 her (fun i hi j hj => hMS i j) hy3 h2' h3'⟩))
      dsimp only
      rw [List.range_succ, List.map_append, hv]
      congr 1
      · exact List.map_congr_left fun i hi => by have := List.mem_range.1 hi; rw [if_neg (by omega)]
      · simp
  · rintro ⟨Y, v⟩ ⟨k, h, hv, hY, c, hG, hce⟩
    dsimp only at hv hY hG ⊢
    have hlen : v.length = k := by rw [hv]; simp
    have hl := hY.len
    have hkr := hG.kr
    simp only [hlen, toNat_nat]
    refine gChk ⟨by omega, by omega⟩ (gChk ⟨by omega, by omega⟩ (gSome ⟨k, h, Y.take k, hkr, by rw [hv], hY.take hkr, (hG.fin hce).1.congr fun i hi j => MF_take hi j, fun w => ?_⟩))
    rw [(hG.fin hce).2]
    constructor
    · intro hw i hi
      rw [Sm_congr fun j hj => by rw [MF_take hi j]]; exact hw i hi
    · intro hw i hi
      rw [Sm_congr fun j hj => by rw [← MF_take (X := Y) hi j]]; exact hw i hi
end
end Go.SH

set_option linter.unusedSimpArgs false
set_option linter.unusedVariables false
set_option linter.unusedSectionVars false
namespace Go.SH
open Go Go.AX

theorem snoc_lt {v : List (List Int)} {w : List Int} {a : Nat} (h : a < v.length) : (v ++ [w]).getD a [] = v.getD a [] := by
  rw [List.getD_eq_getElem?_getD, List.getElem?_append_left h, ← List.getD_eq_getElem?_getD]
theorem snoc_at {v : List (List Int)} {w : List Int} {a : Nat} (h : a = v.length) : (v ++ [w]).getD a [] = w := by
  subst h; rw [List.getD_eq_getElem?_getD, List.getElem?_append_right (Nat.le_refl _), Nat.sub_self]; rfl
theorem snocI_lt {v : List Int} {w : Int} {a : Nat} (h : a < v.length) : (v ++ [w]).getD a 0 = v.getD a 0 := by
  rw [List.getD_eq_getElem?_getD, List.getElem?_append_left h, ← List.getD_eq_getElem?_getD]
theorem snocI_at {v : List Int} {w : Int} {a : Nat} (h : a = v.length) : (v ++ [w]).getD a 0 = w := by
  subst h; rw [List.getD_eq_getElem?_getD, List.getElem?_append_right (Nat.le_refl _), Nat.sub_self]; rfl
theorem setI_getD {l : List Int} {k : Nat} (v : Int) (hk : k < l.length) (j : Nat) : (l.set k v).getD j 0 = if j = k then v else l.getD j 0 := by
  simp only [List.getD_eq_getElem?_getD, List.getElem?_set]
  by_cases e : k = j
  · subst e; simp [hk]
  · rw [if_neg e, if_neg (fun e' => e e'.symm)]
section
variable {p : Nat} [NeZero p]
theorem MOk.ext {r n : Nat} {X Y : List (List Int)} (hX : MOk p r n X) (hY : MOk p r n Y) (h : ∀ i, i < r → ∀ j, j < n → MF p X i j = MF p Y i j) : X = Y := by
  have row : ∀ {Z : List (List Int)} {i : Nat} (hi : i < Z.length), Z[i] = Z.getD i [] := fun hi => by rw [List.getD_eq_getElem?_getD, List.getElem?_eq_getElem hi]; rfl
  refine List.ext_getElem (by rw [hX.len, hY.len]) fun i h1 h2 => ?_
  have hir : i < r := by rw [← hX.len]; exact h1
  rw [row h1, row h2]
  refine List.ext_getElem (by rw [hX.row i hir, hY.row i hir]) fun j h3 h4 => ?_
  have hjn : j < n := by rw [← hX.row i hir]; exact h3
  have e := (cF_eq (hX.bd i hir j hjn) (hY.bd i hir j hjn)).1 (h i hir j hjn)
  unfold ent at e
  rw [List.getD_eq_getElem?_getD (l := X.getD i []), List.getD_eq_getElem?_getD (l := Y.getD i []), List.getElem?_eq_getElem h3, List.getElem?_eq_getElem h4] at e
  exact e
theorem CM.bad {P C : Int} {X : List (List Int)} (h : ¬ CM P C X) : Gets (kinds_CheckMatrix P C X) (fun e => e ≠ 0) :=
  (CheckMatrix_spec P C X).mono fun e he q => h (he.2.1 q)
theorem CM.good {P C : Int} {X : List (List Int)} (h : CM P C X) : Gets (kinds_CheckMatrix P C X) (fun e => e = 0) :=
  (CheckMatrix_spec P C X).mono fun e he => he.2.2 h
/-- Rows with heads that tell as much as X. -/
def RedOf (p : Nat) [NeZero p] (r n : Nat) (X : List (List Int)) (k : Nat) (h : Nat → Nat) (Y : List (List Int)) : Prop := k ≤ r ∧ MOk p k n Y ∧ Rr k n h (MF p Y) ∧ ∀ w, Ker r n (MF p X) w ↔ Ker k n (MF p Y) w
theorem Reduced_spec (hp : Fld p) (h7 : p ≤ 7) {r n : Nat} {X : List (List Int)} (hX : MOk p r n X) (hr : r ≤ 6) (hn : n ≤ 8) (hc : CM p n X) : Gets (field_Reduced p n X) (fun y => ∃ (k : Nat) (h : Nat → Nat) (Y : List (List Int)), y = ((p : Int), (n : Int), Y, 0) ∧ RedOf p r n X k h Y) := by
  unfold field_Reduced
  refine gBind hc.good fun e he => gIte (fun q => absurd he q) fun _ => ?_
  refine gBind (field_twin_spec hX hr hn _ _) ?_
  rintro _ rfl
  refine gBind (field_reduced_spec hp h7 hX hr hn) ?_
  rintro _ ⟨k, h, Y, h1, rfl, h2, h3, h4⟩
  exact gSome ⟨k, h, Y, rfl, h1, h2, h3, h4⟩
theorem Reduced_bad {P C : Int} {X : List (List Int)} (h : ¬ CM P C X) : Gets (field_Reduced P C X) (fun y => y.2.2.2 ≠ 0 ∧ y.2.2.1 = []) := by
  unfold field_Reduced
  exact gBind (CM.bad h) fun e he => gIte (fun q => gSome ⟨he, rfl⟩) fun q => absurd he q
theorem Rank_spec (hp : Fld p) (h7 : p ≤ 7) {r n : Nat} {X : List (List Int)} (hX : MOk p r n X) (hr : r ≤ 6) (hn : n ≤ 8) (hc : CM p n X) : Gets (field_Rank p n X) (fun y => ∃ (k : Nat) (h : Nat → Nat) (Y : List (List Int)), y = ((k : Int), 0) ∧ RedOf p r n X k h Y) := by
  unfold field_Rank
  refine gBind hc.good fun e he => gIte (fun q => absurd he q) fun _ => ?_
  refine gBind (field_twin_spec hX hr hn _ _) ?_
  rintro _ rfl
  refine gBind (field_reduced_spec hp h7 hX hr hn) ?_
  rintro _ ⟨k, h, Y, h1, rfl, h2, h3, h4⟩
  exact gSome ⟨k, h, Y, by simp, h1, h2, h3, h4⟩
/-- A matrix times another. -/
def Prod (r n m : Nat) (A B Z : Nat → Nat → Fin p) : Prop := ∀ i, i < r → ∀ j, j < m → Z i j = Sm n (fun l => A i l * B l j)
theorem Times_spec (h7 : p ≤ 7) {r n m : Nat} {X Y : List (List Int)} (hX : MOk p r n X) (hY : MOk p n m Y) (hr : r ≤ 6) (hn : n ≤ 8) (hm : m ≤ 8) (hcX : CM p n X) (hcY : CM p m Y) :
    Gets (field_Times p n X p m Y) (fun y => ∃ Z, y = ((p : Int), (m : Int), Z, 0) ∧ MOk p r m Z ∧ Prod r n m (MF p X) (MF p Y) (MF p Z)) := by
  have hlX := hX.len
  have hlY := hY.len
  have hp0 : (p : Int) ≠ 0 := by have := NeZero.ne p; omega
  unfold field_Times
  refine gBind hcX.good fun e he => gBind hcY.good fun e' he' => gIte (fun q => absurd he q) fun _ => gIte (fun q => absurd he' q) fun _ => gIte (fun q => ?_) fun _ => ?_
  · rcases q with q | q
    · exact absurd rfl q
    · exact absurd (by omega) q
  refine gBind (R := fun Z => MOk p r m Z ∧ Prod r n m (MF p X) (MF p Y) (MF p Z)) (gFor r (fun i (s : List (List Int) × Int) => s.2 = (i : Int) ∧ MOk p i m s.1 ∧ Prod i n m (MF p X) (MF p Y) (MF p s.1)) (Nat.zero_le _) ⟨rfl, ⟨rfl, fun i h => by omega, fun i h => by omega⟩, fun i h => by omega⟩ ?_) ?_
  · rintro i ⟨V, _⟩ hi ⟨rfl, hV, hV2⟩
    dsimp only at hV hV2 ⊢
    have hlV := hV.len
    simp only [toNat_nat, hlX]
    refine gIte (fun h1 => ?_) fun h1 => gSome (by rw [show r = i by omega]; exact ⟨hV, hV2⟩)
    have hir : i < r := by omega
    rw [hX.row i hir]
    refine gChk ⟨by omega, by omega⟩ (gChk ⟨by omega, by omega⟩ ?_)
    refine gBind (R := fun w : List Int => w.length = m ∧ ∀ j, j < m → (0 ≤ w.getD j 0 ∧ w.getD j 0 < p) ∧ cF p (w.getD j 0) = Sm n (fun l => MF p X i l * MF p Y l j))
      (gFor n (fun l (s : List Int × Int) => s.2 = (l : Int) ∧ s.1.length = m ∧ ∀ j, j < m → (0 ≤ s.1.getD j 0 ∧ s.1.getD j 0 < p) ∧ cF p (s.1.getD j 0) = Sm l (fun l => MF p X i l * MF p Y l j)) (Nat.zero_le _) ⟨rfl, by simp, fun j hj => ?_⟩ ?_) ?_
    · have e : (List.replicate m (0 : Int)).getD j 0 = 0 := by simp [List.getD_eq_getElem?_getD, List.getElem?_replicate, hj]
      simp only [e]
      exact ⟨⟨by omega, by have := Nat.pos_of_ne_zero (NeZero.ne p); omega⟩, cF_zero⟩
    · rintro l ⟨W, _⟩ hl ⟨rfl, hW, hW2⟩
      dsimp only at hW hW2 ⊢
      simp only [toNat_nat]
      refine gIte (fun h2 => ?_) fun h2 => gSome (by rw [show n = l by omega]; exact ⟨hW, hW2⟩)
      have hln : l < n := by omega
      have bx := hX.bd i hir l hln
      have ex : (X.getD i []).getD l 0 = ent X i l := rfl
      have ey : ∀ j, (Y.getD l []).getD j 0 = ent Y l j := fun _ => rfl
      refine gChk ⟨by omega, by omega⟩ ?_
      refine gBind (R := fun w : List Int => w.length = m ∧ ∀ j, j < m → (0 ≤ w.getD j 0 ∧ w.getD j 0 < p) ∧ cF p (w.getD j 0) = Sm (l + 1) (fun l => MF p X i l * MF p Y l j))
        (gFor m (fun j (s : List Int × Int) => s.2 = (j : Int) ∧ s.1.length = m ∧ (∀ b, b < j → (0 ≤ s.1.getD b 0 ∧ s.1.getD b 0 < p) ∧ cF p (s.1.getD b 0) = Sm (l + 1) (fun l => MF p X i l * MF p Y l b)) ∧ ∀ b, j ≤ b → s.1.getD b 0 = W.getD b 0) (Nat.zero_le _) ⟨rfl, hW, fun b hb => by omega, fun b hb => rfl⟩ ?_) ?_
      · rintro j ⟨U, _⟩ hj ⟨rfl, hU, hU2, hU3⟩
        dsimp only at hU hU2 hU3 ⊢
        simp only [toNat_nat, hW, hU, hlY, ex, ey]
        refine gIte (fun h3 => ?_) fun h3 => gSome ⟨hU, fun b hb => hU2 b (by omega)⟩
        have hjm : j < m := by omega
        have by' := hY.bd l hln j hjm
        have bu := hW2 j hjm
        rw [hU3 j (Nat.le_refl _), hY.row l hln]
        have m1 := mul_bd7 bx.1 (by omega) by'.1 (by omega)
        have b7 := bu.1
        refine gChk ⟨⟨by omega, by omega⟩, ⟨by omega, by omega⟩, ⟨by omega, by omega⟩, ⟨by omega, by omega⟩, ⟨by omega, by omega⟩, hp0⟩ (gSome ⟨hjm, by simp, by simpa using hU, fun b hb => ?_, fun b hb => ?_⟩)
        · have hpos : 0 ≤ W.getD j 0 + ent X i l * ent Y l j := by omega
          rw [setI_getD _ (by omega)]
          by_cases q : b = j
          · subst q
            rw [if_pos rfl]
            refine ⟨tmod_bd hpos, ?_⟩
            rw [cF_tmod hpos, cF_add, cF_mul, bu.2]
            rfl
          · rw [if_neg q]; exact hU2 b (by omega)
        · rw [setI_getD _ (by omega), if_neg (by omega)]; exact hU3 b (by omega)
      · rintro U ⟨hU, hU2⟩
        exact gChk ⟨by omega, by omega⟩ (gSome ⟨hln, by simp, hU, hU2⟩)
    · rintro W ⟨hW, hW2⟩
      have at' : ∀ a, a < i → ∀ j, ent (V ++ [W]) a j = ent V a j := fun a ha j => by unfold ent; rw [snoc_lt (by omega)]
      have ats : ∀ j, ent (V ++ [W]) i j = W.getD j 0 := fun j => by unfold ent; rw [snoc_at (by omega)]
      refine gChk (by rw [List.length_append, hlV]; simp; omega) (gSome ⟨hir, by simp, ⟨by rw [List.length_append, hlV]; rfl, fun a ha => ?_, fun a ha j hj => ?_⟩, fun a ha j hj => ?_⟩)
      · rcases Nat.lt_succ_iff_lt_or_eq.1 ha with q | q
        · rw [snoc_lt (by omega)]; exact hV.row a q
        · rw [snoc_at (by omega)]; exact hW
      · rcases Nat.lt_succ_iff_lt_or_eq.1 ha with q | q
        · rw [at' a q]; exact hV.bd a q j hj
        · rw [q, ats]; exact (hW2 j hj).1
      · unfold MF
        rcases Nat.lt_succ_iff_lt_or_eq.1 ha with q | q
        · rw [at' a q]; exact hV2 a q j hj
        · rw [q, ats]; exact (hW2 j hj).2
  · rintro Z ⟨h1, h2⟩
    exact gSome ⟨Z, rfl, h1, h2⟩
theorem Turned_spec {r n : Nat} {X : List (List Int)} (hX : MOk p r n X) (hr : r ≤ 6) (hn : n ≤ 6) (hc : CM p n X) :
    Gets (field_Turned p n X) (fun y => ∃ Z, y = ((p : Int), (r : Int), Z, 0) ∧ MOk p n r Z ∧ ∀ i, i < n → ∀ j, j < r → MF p Z i j = MF p X j i) := by
  have hlX := hX.len
  unfold field_Turned
  refine gBind hc.good fun e he => gIte (fun q => absurd he q) fun _ => gIte (fun q => absurd q (by omega)) fun _ => ?_
  refine gBind (R := fun Z => MOk p n r Z ∧ ∀ i, i < n → ∀ j, j < r → ent Z i j = ent X j i) (gFor n (fun i (s : List (List Int) × Int) => s.2 = (i : Int) ∧ MOk p i r s.1 ∧ ∀ a, a < i → ∀ j, j < r → ent s.1 a j = ent X j a) (Nat.zero_le _) ⟨rfl, ⟨rfl, fun i h => by omega, fun i h => by omega⟩, fun i h => by omega⟩ ?_) ?_
  · rintro i ⟨V, _⟩ hi ⟨rfl, hV, hV2⟩
    dsimp only at hV hV2 ⊢
    have hlV := hV.len
    simp only [toNat_nat, hlX]
    refine gIte (fun h1 => ?_) fun h1 => gSome (by rw [show n = i by omega]; exact ⟨hV, hV2⟩)
    have hin : i < n := by omega
    refine gBind (R := fun w : List Int => w.length = r ∧ ∀ j, j < r → w.getD j 0 = ent X j i) (gFor r (fun j (s : List Int × Int) => s.2 = (j : Int) ∧ s.1.length = j ∧ ∀ b, b < j → s.1.getD b 0 = ent X b i) (Nat.zero_le _) ⟨rfl, rfl, fun b h => by omega⟩ ?_) ?_
    · rintro j ⟨W, _⟩ hj ⟨rfl, hW, hW2⟩
      dsimp only at hW hW2 ⊢
      simp only [toNat_nat]
      refine gIte (fun h2 => ?_) fun h2 => gSome (by rw [show r = j by omega]; exact ⟨hW, hW2⟩)
      have hjr : j < r := by omega
      have hrow := hX.row j hjr
      refine gChk ⟨by omega, by omega⟩ (gChk ⟨⟨by omega, by rw [hrow]; omega⟩, by rw [List.length_append, hW]; simp; omega⟩ (gSome ⟨hjr, by simp, by rw [List.length_append, hW]; rfl, fun b hb => ?_⟩))
      rcases Nat.lt_succ_iff_lt_or_eq.1 hb with q | q
      · rw [snocI_lt (by omega)]; exact hW2 b q
      · rw [snocI_at (by omega), q]; rfl
    · rintro W ⟨hW, hW2⟩
      have at' : ∀ a, a < i → ∀ j, ent (V ++ [W]) a j = ent V a j := fun a ha j => by unfold ent; rw [snoc_lt (by omega)]
      have ats : ∀ j, ent (V ++ [W]) i j = W.getD j 0 := fun j => by unfold ent; rw [snoc_at (by omega)]
      refine gChk (by rw [List.length_append, hlV]; simp; omega) (gChk ⟨by omega, by omega⟩ (gSome ⟨hin, by simp, ⟨by rw [List.length_append, hlV]; rfl, fun a ha => ?_, fun a ha j hj => ?_⟩, fun a ha j hj => ?_⟩))
      · rcases Nat.lt_succ_iff_lt_or_eq.1 ha with q | q
        · rw [snoc_lt (by omega)]; exact hV.row a q
        · rw [snoc_at (by omega)]; exact hW
      · rcases Nat.lt_succ_iff_lt_or_eq.1 ha with q | q
        · rw [at' a q]; exact hV.bd a q j hj
        · rw [q, ats, hW2 j hj]; exact hX.bd j hj i hin
      · rcases Nat.lt_succ_iff_lt_or_eq.1 ha with q | q
        · rw [at' a q]; exact hV2 a q j hj
        · rw [q, ats]; exact hW2 j hj
  · rintro Z ⟨h1, h2⟩
    exact gSome ⟨Z, by rw [hlX], h1, fun i hi j hj => by unfold MF; rw [h2 i hi j hj]⟩
end
end Go.SH
