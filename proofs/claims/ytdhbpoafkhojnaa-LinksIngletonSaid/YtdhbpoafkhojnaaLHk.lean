/-
  Families of sets that grow are matroids. Families of sets that grow are matroids; elements that stand for sets: what kinds.Transversal gives is a matroid.  Conditions: none.
-/
import Derived.Test.YtdhbpoafkhojnaaLA
import Derived.Test.YtdhbpoafkhojnaaLGk
import Derived.Test.YtdhbpoafkhojnaaSpkindst

set_option linter.unusedSimpArgs false
set_option linter.unusedVariables false
namespace Go.SH
open Go Go.AX

theorem swap_lt {m a x y : Nat} (ha : a < 2 ^ m) (hy : y < m) : dif a (2 ^ x) ||| 2 ^ y < 2 ^ m := or_lt (dif_lt ha) (Nat.pow_lt_pow_right (by omega) hy)
/-- The greatest sets of a family that can be grown. -/
theorem aug_mat {n : Nat} (h8 : n ≤ 8) {p : Nat → Prop} {K : List Nat} (hF : Fam n K) (hK : ∀ s, s ∈ K ↔ s < 2 ^ n ∧ p s ∧ ∀ t, t < 2 ^ n → p t → cnt n t ≤ cnt n s) (h0 : p 0)
    (hsub : ∀ s t, Inc s t → p t → p s) (haug : ∀ I J, I < 2 ^ n → J < 2 ^ n → p I → p J → cnt n I < cnt n J → ∃ e, J.testBit e = true ∧ I.testBit e = false ∧ p (I ||| 2 ^ e)) : Mat n K := by
  have best : ∀ d s, s < 2 ^ n → p s → n ≤ cnt n s + d → ∃ b, b ∈ K := by
    intro d
    induction d with
    | zero => exact fun s hs hp hd => ⟨s, (hK s).2 ⟨hs, hp, fun t _ _ => by have := cnt_le n t; omega⟩⟩
    | succ d ih =>
      intro s hs hp hd
      by_cases q : ∀ t, t < 2 ^ n → p t → cnt n t ≤ cnt n s
      · exact ⟨s, (hK s).2 ⟨hs, hp, q⟩⟩
      · have : ∃ t, t < 2 ^ n ∧ p t ∧ cnt n s < cnt n t := by
          apply Classical.byContradiction
          intro hno
          exact q fun t h1 h2 => Nat.le_of_not_lt fun h3 => hno ⟨t, h1, h2, h3⟩
        obtain ⟨t, h1, h2, h3⟩ := this
        exact ih t h1 h2 (by omega)
  refine { hF with ne := ?_, eqc := ?_, ex := ?_ }
  · obtain ⟨b, hb⟩ := best n 0 (Nat.pow_pos (by omega)) h0 (by omega)
    intro e; rw [e] at hb; cases hb
  · intro a ha b hb
    obtain ⟨a1, a2, a3⟩ := (hK a).1 ha
    obtain ⟨b1, b2, b3⟩ := (hK b).1 hb
    have := a3 b b1 b2; have := b3 a a1 a2; omega
  · intro a ha b hb x hax hbx
    obtain ⟨a1, a2, a3⟩ := (hK a).1 ha
    obtain ⟨b1, b2, b3⟩ := (hK b).1 hb
    have hc := cnt_dif (m := n) a1 hax
    have hab := a3 b b1 b2
    have hba := b3 a a1 a2
    obtain ⟨e, e1, e2, e3⟩ := haug (dif a (2 ^ x)) b (dif_lt a1) b1 (hsub _ _ (inc_dif _ _) a2) b2 (by omega)
    have hex : e ≠ x := fun q => by subst q; rw [hbx] at e1; cases e1
    have hae : a.testBit e = false := by
      rw [testBit_dif, testBit_pow] at e2
      have : decide (x = e) = false := decide_eq_false fun q => hex q.symm
      simpa [this] using e2
    have hen := bit_lt b1 e1
    refine ⟨e, e1, hae, (hK _).2 ⟨swap_lt a1 hen, e3, fun t h1 h2 => ?_⟩⟩
    rw [cnt_add hen e2]
    have := a3 t h1 h2
    omega

theorem setof (p : Nat → Prop) : ∀ n, ∃ D, D < 2 ^ n ∧ ∀ x, D.testBit x = true ↔ x < n ∧ p x
  | 0 => ⟨0, by simp, fun x => by simp⟩
  | n + 1 => by
    obtain ⟨D, d1, d2⟩ := setof p n
    by_cases q : p n
    · refine ⟨D ||| 2 ^ n, or_lt (Nat.lt_of_lt_of_le d1 (Nat.pow_le_pow_right (by omega) (by omega))) (Nat.pow_lt_pow_right (by omega) (by omega)), fun x => ?_⟩
      rw [Nat.testBit_or, testBit_pow, Bool.or_eq_true, d2, decide_eq_true_eq]
      constructor
      · rintro (⟨h1, h2⟩ | rfl)
        · exact ⟨by omega, h2⟩
        · exact ⟨by omega, q⟩
      · rintro ⟨h1, h2⟩
        by_cases c : x = n
        · exact .inr c.symm
        · exact .inl ⟨by omega, h2⟩
    · refine ⟨D, Nat.lt_of_lt_of_le d1 (Nat.pow_le_pow_right (by omega) (by omega)), fun x => ?_⟩
      rw [d2]
      constructor
      · rintro ⟨h1, h2⟩; exact ⟨by omega, h2⟩
      · rintro ⟨h1, h2⟩
        by_cases c : x = n
        · subst c; exact absurd h2 q
        · exact ⟨by omega, h2⟩
/-- The set of what f gives on s. -/
theorem image_ex {n : Nat} (f : Nat → Nat) (b : Nat) : ∀ s, s < 2 ^ n → (∀ x, s.testBit x = true → f x < b) → (∀ x y, s.testBit x = true → s.testBit y = true → f x = f y → x = y) → ∃ N, N < 2 ^ b ∧ cnt b N = cnt n s ∧ ∀ j, N.testBit j = true ↔ ∃ x, s.testBit x = true ∧ f x = j := by
  refine set_ind (m := n) (fun s => (∀ x, s.testBit x = true → f x < b) → (∀ x y, s.testBit x = true → s.testBit y = true → f x = f y → x = y) → ∃ N, N < 2 ^ b ∧ cnt b N = cnt n s ∧ ∀ j, N.testBit j = true ↔ ∃ x, s.testBit x = true ∧ f x = j) (fun _ _ => ⟨0, Nat.pow_pos (by omega), by rw [cnt_zero, cnt_zero], fun j => by simp⟩) ?_
  intro s i hs hi hb ih h1 h2
  have bi : (s ||| 2 ^ i).testBit i = true := by rw [Nat.testBit_or, testBit_pow]; simp
  have bv : ∀ v, s.testBit v = true → (s ||| 2 ^ i).testBit v = true := fun v hv => by rw [Nat.testBit_or, hv]; rfl
  obtain ⟨N, n1, n2, n3⟩ := ih (fun x hx => h1 x (bv x hx)) fun x y hx hy => h2 x y (bv x hx) (bv y hy)
  have hno : N.testBit (f i) = false := by
    cases q : N.testBit (f i) with
    | false => rfl
    | true =>
      obtain ⟨x, x1, x2⟩ := (n3 _).1 q
      have := h2 x i (bv x x1) bi x2
      subst this
      rw [hb] at x1; cases x1
  refine ⟨N ||| 2 ^ f i, or_lt n1 (Nat.pow_lt_pow_right (by omega) (h1 i bi)), by rw [cnt_add (h1 i bi) hno, cnt_add hi hb, n2], fun j => ?_⟩
  rw [Nat.testBit_or, testBit_pow, Bool.or_eq_true, n3, decide_eq_true_eq]
  constructor
  · rintro (⟨x, x1, x2⟩ | rfl)
    · exact ⟨x, bv x x1, x2⟩
    · exact ⟨i, bi, rfl⟩
  · rintro ⟨x, x1, x2⟩
    rw [Nat.testBit_or, testBit_pow, Bool.or_eq_true, decide_eq_true_eq] at x1
    rcases x1 with x1 | rfl
    · exact .inl ⟨x, x1, x2⟩
    · exact .inr x2
/-- What the makers of matroids give. -/
def Made (r : Int × List Int × Int) : Prop := (r.2.2 = 0 ∧ axioms_Check r.1 r.2.1 = some 0) ∨ (r.2.2 ≠ 0 ∧ r.1 = 0 ∧ r.2.1 = [])
end Go.SH

set_option linter.unusedSimpArgs false
set_option linter.unusedVariables false
namespace Go.SH
open Go Go.AX

structure HOk (n : Nat) (L : List Nat) : Prop where
  n8 : n ≤ 8
  l8 : L.length ≤ 8
  lt : ∀ k, k < L.length → L.getD k 0 < 2 ^ n
theorem bit_nat' (a k : Nat) : iand ((a : Int) / ((2 ^ k : Nat) : Int)) 1 = if a.testBit k then 1 else 0 := by have := bit_nat a k; rw [toNat_nat] at this; rw [← this]; simp
theorem and_pow_ne {a i : Nat} : a &&& 2 ^ i ≠ 0 ↔ a.testBit i = true := by
  constructor
  · intro h
    cases q : a.testBit i with
    | true => rfl
    | false =>
      exact absurd ((disj_iff _ _).2 fun j hj => by
        rw [testBit_pow]
        rcases Classical.em (i = j) with c | c
        · subst c; rw [q] at hj; cases hj
        · simp [c]) h
  · intro h e
    have := (disj_iff _ _).1 e i h
    rw [testBit_pow] at this
    simp at this
/-- These elements stand for sets, each for one. -/
def SDR (L : List Nat) (s used : Nat) : Prop := ∃ f : Nat → Nat, (∀ x, s.testBit x = true → f x < L.length ∧ used.testBit (f x) = false ∧ (L.getD (f x) 0).testBit x = true) ∧ ∀ x y, s.testBit x = true → s.testBit y = true → f x = f y → x = y
theorem SDR_step {L : List Nat} {s used i : Nat} (hi : s.testBit i = true) : SDR L s used ↔ ∃ j, j < L.length ∧ used.testBit j = false ∧ (L.getD j 0).testBit i = true ∧ SDR L (dif s (2 ^ i)) (used ||| 2 ^ j) := by
  have hb : ∀ x, (dif s (2 ^ i)).testBit x = true ↔ s.testBit x = true ∧ x ≠ i := fun x => by
    rw [testBit_dif, testBit_pow, Bool.and_eq_true, Bool.not_eq_true', decide_eq_false_iff_not]
    exact and_congr Iff.rfl ⟨fun h e => h e.symm, fun h e => h e.symm⟩
  constructor
  · rintro ⟨f, f1, f2⟩
    obtain ⟨a, b, c⟩ := f1 i hi
    refine ⟨f i, a, b, c, f, fun x hx => ?_, fun x y hx hy e => f2 x y ((hb x).1 hx).1 ((hb y).1 hy).1 e⟩
    obtain ⟨x1, x2⟩ := (hb x).1 hx
    obtain ⟨a', b', c'⟩ := f1 x x1
    refine ⟨a', ?_, c'⟩
    rw [Nat.testBit_or, b', testBit_pow, Bool.false_or, decide_eq_false_iff_not]
    exact fun e => x2 (f2 i x hi x1 e).symm
  · rintro ⟨j, j1, j2, j3, f, f1, f2⟩
    have hf : ∀ x, s.testBit x = true → x ≠ i → f x < L.length ∧ used.testBit (f x) = false ∧ j ≠ f x ∧ (L.getD (f x) 0).testBit x = true := fun x hx hxi => by
      obtain ⟨a, b, c⟩ := f1 x ((hb x).2 ⟨hx, hxi⟩)
      rw [Nat.testBit_or, Bool.or_eq_false_iff, testBit_pow, decide_eq_false_iff_not] at b
      exact ⟨a, b.1, b.2, c⟩
    refine ⟨fun x => if x = i then j else f x, fun x hx => ?_, fun x y hx hy e => ?_⟩
    · by_cases c : x = i
      · subst c; simp only [if_true]; exact ⟨j1, j2, j3⟩
      · simp only [if_neg c]
        obtain ⟨a, b, _, d⟩ := hf x hx c
        exact ⟨a, b, d⟩
    · by_cases c : x = i
      · by_cases d : y = i
        · rw [c, d]
        · simp only [if_pos c, if_neg d] at e
          exact absurd e (hf y hy d).2.2.1
      · by_cases d : y = i
        · simp only [if_pos d, if_neg c] at e
          exact absurd e.symm (hf x hx c).2.2.1
        · simp only [if_neg c, if_neg d] at e
          exact f2 x y ((hb x).2 ⟨hx, c⟩) ((hb y).2 ⟨hy, d⟩) e
theorem chosen1_spec {m : Nat} {L : List Nat} (h : HOk m L) : ∀ (fuel s used : Nat), s < 2 ^ 8 → used < 2 ^ 8 → cnt 8 s < fuel → Gets (kinds_chosen_1 fuel s used (cs L)) (fun b => b = true ↔ SDR L s used)
  | 0, _, _, _, _, h0 => absurd h0 (by omega)
  | fuel + 1, s, used, hs, hu, hc => by
    have hl8 := h.l8
    rw [kinds_chosen_1.eq_2]
    refine gIte (fun q => gSome ⟨fun _ => ?_, fun _ => rfl⟩) fun q => ?_
    · have : s = 0 := by omega
      subst this
      exact ⟨fun _ => 0, fun x hx => by simp at hx, fun x y hx => by simp at hx⟩
    have hlow := low_spec (t := s) hs (by omega)
    generalize lo1 s = i at hlow
    have hi := bit_lt hs hlow.bit
    simp only [hlow.neg, cs_len, dif_nat]
    refine gChk (by omega) (gBind (R := fun z => match z with | .inl _ => ¬ SDR L s used | .inr b => b = true ∧ SDR L s used) (gFor L.length (fun k v => v = (k : Int) ∧ ∀ j, j < k → ¬ (used.testBit j = false ∧ (L.getD j 0).testBit i = true ∧ SDR L (dif s (2 ^ i)) (used ||| 2 ^ j))) (Nat.zero_le _) ⟨rfl, none_all⟩ ?_) ?_)
    · rintro k _ hk ⟨rfl, hI⟩
      simp only [toNat_nat, shl_nat', bit_nat', cs_get, and_nat, or_nat]
      refine gIte (fun h1 => gChk (by omega) (gChk ⟨by omega, fun _ => by omega⟩ ?_)) fun h1 => gSome fun hz => ?_
      · have hk' : k < L.length := by omega
        have e1 : ((if used.testBit k = true then (1 : Int) else 0) = 0 ∧ (((L.getD k 0 &&& 2 ^ i : Nat) : Int)) ≠ 0) ↔ (used.testBit k = false ∧ (L.getD k 0).testBit i = true) := by
          refine and_congr ?_ ?_
          · cases used.testBit k <;> simp
          · rw [← and_pow_ne]; omega
        refine gIte (fun h2 => ?_) fun h2 => gSome ⟨hk', by simp, step_all hI fun z => h2 (e1.2 ⟨z.1, z.2.1⟩)⟩
        obtain ⟨h3, h4⟩ := e1.1 h2
        have hcd := cnt_dif (m := 8) hs hlow.bit
        refine gBind (chosen1_spec h fuel (dif s (2 ^ i)) (used ||| 2 ^ k) (dif_lt hs) (or_lt hu (pow_lt (by omega))) (by omega)) fun b hb => ?_
        exact gIte (fun h5 => gSome ⟨rfl, (SDR_step hlow.bit).2 ⟨k, hk', h3, h4, hb.1 h5⟩⟩) fun h5 => gSome ⟨hk', by simp, step_all hI fun z => h5 (hb.2 z.2.2)⟩
      · obtain ⟨j, j1, j2, j3, j4⟩ := (SDR_step hlow.bit).1 hz
        exact hI j (by omega) ⟨j2, j3, j4⟩
    · rintro (u | b) hz
      · exact gSome ⟨fun q => absurd q (by simp), fun q => absurd q hz⟩
      · exact gSome ⟨fun _ => hz.2, fun _ => hz.1⟩
theorem Transversal1_spec {m : Nat} {L : List Nat} (h : HOk m L) {s : Nat} (hs : s < 2 ^ m) : Gets (kinds_Transversal_1 (s : Int) (cs L)) (fun b => b = true ↔ SDR L s 0) := by
  unfold kinds_Transversal_1 kinds_chosen
  have h8 : s < 2 ^ 8 := Nat.lt_of_lt_of_le hs (Nat.pow_le_pow_right (by omega) h.n8)
  have hc := cnt_le 8 s
  exact gBind (gBind (chosen1_spec h 12 s 0 h8 (by omega) (by omega)) fun b hb => gSome hb) fun b hb => gSome hb
theorem SDR_nil (L : List Nat) : SDR L 0 0 := ⟨fun _ => 0, fun x hx => by simp at hx, fun x y hx => by simp at hx⟩
theorem SDR_sub {L : List Nat} {s t : Nat} (h : Inc s t) (ht : SDR L t 0) : SDR L s 0 :=
  let ⟨f, f1, f2⟩ := ht
  ⟨f, fun x hx => f1 x (h x hx), fun x y hx hy => f2 x y (h x hx) (h y hy)⟩
theorem SDR_aug {n : Nat} {L : List Nat} {I J : Nat} (hI : I < 2 ^ n) (hJ : J < 2 ^ n) (h1 : SDR L I 0) (h2 : SDR L J 0) (hc : cnt n I < cnt n J) : ∃ e, J.testBit e = true ∧ I.testBit e = false ∧ SDR L (I ||| 2 ^ e) 0 := by
  obtain ⟨g, g1, g2⟩ := h2
  obtain ⟨NJ, j1, j2, j3⟩ := image_ex g L.length J hJ (fun x hx => (g1 x hx).1) g2
  -- how many elements of I and J do not stand for the same
  have key : ∀ d (f : Nat → Nat), (∀ x, I.testBit x = true → f x < L.length ∧ (0 : Nat).testBit (f x) = false ∧ (L.getD (f x) 0).testBit x = true) → (∀ x y, I.testBit x = true → I.testBit y = true → f x = f y → x = y) →
      ∀ D, D < 2 ^ n → (∀ x, D.testBit x = true ↔ I.testBit x = true ∧ J.testBit x = true ∧ f x ≠ g x) → cnt n D = d → ∃ e, J.testBit e = true ∧ I.testBit e = false ∧ SDR L (I ||| 2 ^ e) 0 := by
    intro d
    induction d with
    | zero =>
      intro f f1 f2 D hD hDi hd
      obtain ⟨NI, i1, i2, i3⟩ := image_ex f L.length I hI (fun x hx => (f1 x hx).1) f2
      have : ∃ k, NJ.testBit k = true ∧ NI.testBit k = false := by
        apply Classical.byContradiction
        intro hno
        have := cnt_le_of_inc (m := L.length) (a := NJ) (b := NI) fun k hk => by
          cases q : NI.testBit k with
          | true => rfl
          | false => exact absurd ⟨k, hk, q⟩ hno
        omega
      obtain ⟨k, k1, k2⟩ := this
      obtain ⟨e, e1, rfl⟩ := (j3 k).1 k1
      have hfn : ∀ x, I.testBit x = true → f x ≠ g e := fun x hx q => by
        have := (i3 (g e)).2 ⟨x, hx, q⟩
        rw [this] at k2; cases k2
      have heI : I.testBit e = false := by
        cases q : I.testBit e with
        | false => rfl
        | true =>
          have := (hDi e).2 ⟨q, e1, hfn e q⟩
          have := cnt_pos hD this
          omega
      refine ⟨e, e1, heI, fun x => if x = e then g e else f x, fun x hx => ?_, fun x y hx hy q => ?_⟩
      · by_cases c : x = e
        · subst c; simp only [if_true]; exact g1 _ e1
        · simp only [if_neg c]
          refine f1 x ?_
          rw [Nat.testBit_or, testBit_pow, Bool.or_eq_true, decide_eq_true_eq] at hx
          exact hx.resolve_right fun q => c q.symm
      · have off : ∀ x, (I ||| 2 ^ e).testBit x = true → x ≠ e → I.testBit x = true := fun x hx c => by
          rw [Nat.testBit_or, testBit_pow, Bool.or_eq_true, decide_eq_true_eq] at hx
          exact hx.resolve_right fun q => c q.symm
        by_cases c : x = e
        · by_cases d : y = e
          · rw [c, d]
          · simp only [if_pos c, if_neg d] at q
            exact absurd q.symm (hfn y (off y hy d))
        · by_cases d : y = e
          · simp only [if_pos d, if_neg c] at q
            exact absurd q (hfn x (off x hx c))
          · simp only [if_neg c, if_neg d] at q
            exact f2 x y (off x hx c) (off y hy d) q
    | succ d ih =>
      intro f f1 f2 D hD hDi hd
      obtain ⟨NI, i1, i2, i3⟩ := image_ex f L.length I hI (fun x hx => (f1 x hx).1) f2
      have : ∃ k, NJ.testBit k = true ∧ NI.testBit k = false := by
        apply Classical.byContradiction
        intro hno
        have := cnt_le_of_inc (m := L.length) (a := NJ) (b := NI) fun k hk => by
          cases q : NI.testBit k with
          | true => rfl
          | false => exact absurd ⟨k, hk, q⟩ hno
        omega
      obtain ⟨k, k1, k2⟩ := this
      obtain ⟨e, e1, rfl⟩ := (j3 k).1 k1
      have hfn : ∀ x, I.testBit x = true → f x ≠ g e := fun x hx q => by
        have := (i3 (g e)).2 ⟨x, hx, q⟩
        rw [this] at k2; cases k2
      cases heI : I.testBit e with
      | false =>
        refine ⟨e, e1, heI, fun x => if x = e then g e else f x, fun x hx => ?_, fun x y hx hy q => ?_⟩
        · by_cases c : x = e
          · subst c; simp only [if_true]; exact g1 _ e1
          · simp only [if_neg c]
            refine f1 x ?_
            rw [Nat.testBit_or, testBit_pow, Bool.or_eq_true, decide_eq_true_eq] at hx
            exact hx.resolve_right fun q => c q.symm
        · have off : ∀ x, (I ||| 2 ^ e).testBit x = true → x ≠ e → I.testBit x = true := fun x hx c => by
            rw [Nat.testBit_or, testBit_pow, Bool.or_eq_true, decide_eq_true_eq] at hx
            exact hx.resolve_right fun q => c q.symm
          by_cases c : x = e
          · by_cases d : y = e
            · rw [c, d]
            · simp only [if_pos c, if_neg d] at q
              exact absurd q.symm (hfn y (off y hy d))
          · by_cases d : y = e
            · simp only [if_pos d, if_neg c] at q
              exact absurd q (hfn x (off x hx c))
            · simp only [if_neg c, if_neg d] at q
              exact f2 x y (off x hx c) (off y hy d) q
      | true =>
        have hDe := (hDi e).2 ⟨heI, e1, hfn e heI⟩
        refine ih (fun x => if x = e then g e else f x) (fun x hx => ?_) (fun x y hx hy q => ?_) (dif D (2 ^ e)) (dif_lt hD) (fun x => ?_) (by have := cnt_dif hD hDe; omega)
        · by_cases c : x = e
          · subst c; simp only [if_true]; exact g1 _ e1
          · simp only [if_neg c]; exact f1 x hx
        · by_cases c : x = e
          · by_cases d : y = e
            · rw [c, d]
            · simp only [if_pos c, if_neg d] at q
              exact absurd q.symm (hfn y hy)
          · by_cases d : y = e
            · simp only [if_pos d, if_neg c] at q
              exact absurd q (hfn x hx)
            · simp only [if_neg c, if_neg d] at q
              exact f2 x y hx hy q
        · rw [testBit_dif, testBit_pow, Bool.and_eq_true, hDi, Bool.not_eq_true', decide_eq_false_iff_not]
          by_cases c : x = e
          · subst c; simp
          · simp only [if_neg c]
            exact ⟨fun q => q.1, fun q => ⟨q, fun w => c w.symm⟩⟩
  obtain ⟨f, f1, f2⟩ := h1
  have hD : ∃ D, D < 2 ^ n ∧ ∀ x, D.testBit x = true ↔ I.testBit x = true ∧ J.testBit x = true ∧ f x ≠ g x :=
    let ⟨D, d1, d2⟩ := setof (fun x => I.testBit x = true ∧ J.testBit x = true ∧ f x ≠ g x) n
    ⟨D, d1, fun x => (d2 x).trans ⟨fun q => q.2, fun q => ⟨bit_lt hI q.1, q⟩⟩⟩
  obtain ⟨D, d1, d2⟩ := hD
  exact key _ f f1 f2 D d1 d2 rfl
theorem Transversal_made (n : Int) (l : List Int) : Gets (kinds_Transversal n l) Made := by
  unfold kinds_Transversal
  refine gIte (fun q => gSome (.inr ⟨by decide, rfl, rfl⟩)) fun q => ?_
  obtain ⟨m, rfl⟩ := Int.eq_ofNat_of_zero_le (show 0 ≤ n by omega)
  refine gBind (R := fun z => match z with | .inl _ => ∀ k, k < l.length → 0 ≤ l.getD k 0 ∧ l.getD k 0 < ((2 ^ m : Nat) : Int) | .inr r => Made r) (gFor l.length (fun k v => v = (k : Int) ∧ ∀ j, j < k → 0 ≤ l.getD j 0 ∧ l.getD j 0 < ((2 ^ m : Nat) : Int)) (Nat.zero_le _) ⟨rfl, none_all⟩ ?_) ?_
  · rintro k _ hk ⟨rfl, hb⟩
    simp only [toNat_nat, shl_nat']
    refine gIte (fun h1 => gChk (by omega) (gChk (fun _ => by omega) (gIte (fun q => gSome (.inr ⟨by decide, rfl, rfl⟩)) fun q => gSome ⟨by omega, by simp, step_all hb (by omega)⟩))) fun h1 => gSome fun j hj => hb j (by omega)
  · rintro (u | r) hz
    · refine gIte (fun q => gSome (.inr ⟨by decide, rfl, rfl⟩)) fun q8 => ?_
      have hl := cs_of fun k hk => (hz k hk).1
      have hlen : (l.map Int.toNat).length = l.length := by simp
      generalize l.map Int.toNat = L at hl hlen
      subst hl
      have hok : HOk m L := ⟨by omega, by omega, fun k hk => by have := (hz k (by simpa using hk)).2; rw [cs_get] at this; omega⟩
      refine gBind (greatest_spec (p := fun s => SDR L s 0) hok.n8 (fun s hs => Transversal1_spec hok hs) (SDR_nil L)) ?_
      rintro _ ⟨K, rfl, hF, hK⟩
      exact gSome (.inl ⟨rfl, (aug_mat hok.n8 hF hK (SDR_nil L) (fun s t h1 h2 => SDR_sub h1 h2) fun I J hI hJ a b c => SDR_aug hI hJ a b c).check⟩)
    · exact gSome hz
end Go.SH
