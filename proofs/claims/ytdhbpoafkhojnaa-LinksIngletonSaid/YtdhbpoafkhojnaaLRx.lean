/-
  RADO's theorem: representatives of rank. Conditions: none.
-/
import Derived.Test.YtdhbpoafkhojnaaLHk
import Derived.Test.YtdhbpoafkhojnaaLUq
import Derived.Test.YtdhbpoafkhojnaaLRm
set_option linter.unusedSimpArgs false
set_option linter.unusedVariables false
namespace Go.SH
open Go Go.AX

def nb (m : Nat) (L : List Nat) (t : Nat) : Nat := mkset m fun x => (List.range L.length).any fun v => t.testBit v && (L.getD v 0).testBit x
theorem nb_lt (m : Nat) (L : List Nat) (t : Nat) : nb m L t < 2 ^ m := mkset_lt m _
theorem nb_bit (m : Nat) (L : List Nat) (t x : Nat) : (nb m L t).testBit x = true ↔ x < m ∧ ∃ v, v < L.length ∧ t.testBit v = true ∧ (L.getD v 0).testBit x = true := by
  rw [nb, mkset_bit, Bool.and_eq_true, decide_eq_true_eq, List.any_eq_true]
  refine and_congr Iff.rfl ⟨fun ⟨i, h1, h2⟩ => ?_, fun ⟨i, h1, h2, h3⟩ => ⟨i, List.mem_range.2 h1, by rw [h2, h3]; rfl⟩⟩
  rw [Bool.and_eq_true] at h2
  exact ⟨i, List.mem_range.1 h1, h2⟩
theorem HOk.nb_bit {m : Nat} {L : List Nat} (h : HOk m L) (t x : Nat) : (nb m L t).testBit x = true ↔ ∃ v, v < L.length ∧ t.testBit v = true ∧ (L.getD v 0).testBit x = true := by
  rw [Go.SH.nb_bit]
  exact ⟨fun q => q.2, fun ⟨v, h1, h2, h3⟩ => ⟨bit_lt (h.lt v h1) h3, v, h1, h2, h3⟩⟩
theorem cnt_inj {a b : Nat} {g : Nat → Nat} : ∀ t, t < 2 ^ a → ∀ N, N < 2 ^ b → (∀ v, t.testBit v = true → N.testBit (g v) = true) → (∀ v w, t.testBit v = true → t.testBit w = true → g v = g w → v = w) → cnt a t ≤ cnt b N := by
  refine set_ind (m := a) (fun t => ∀ N, N < 2 ^ b → (∀ v, t.testBit v = true → N.testBit (g v) = true) → (∀ v w, t.testBit v = true → t.testBit w = true → g v = g w → v = w) → cnt a t ≤ cnt b N) (fun N _ _ _ => by rw [cnt_zero]; omega) ?_
  intro t i ht hi hb ih N hN h1 h2
  have bi : (t ||| 2 ^ i).testBit i = true := by rw [Nat.testBit_or, testBit_pow]; simp
  have bv : ∀ v, t.testBit v = true → (t ||| 2 ^ i).testBit v = true := fun v hv => by rw [Nat.testBit_or, hv]; rfl
  have hg := h1 i bi
  have := ih (dif N (2 ^ g i)) (dif_lt hN) (fun v hv => by
    rw [testBit_dif, h1 v (bv v hv), testBit_pow]
    have : g i ≠ g v := fun e => by
      have := h2 i v bi (bv v hv) e
      subst this; rw [hv] at hb; cases hb
    simp [this]) (fun v w hv hw e => h2 v w (bv v hv) (bv w hw) e)
  rw [cnt_add hi hb, cnt_dif hN hg]
  omega

theorem getD_setN {L : List Nat} {k j a : Nat} (hk : k < L.length) : (L.set k a).getD j 0 = if j = k then a else L.getD j 0 := by
  rw [List.getD_eq_getElem?_getD, List.getElem?_set, List.getD_eq_getElem?_getD]
  by_cases h : k = j
  · subst h
    rw [if_pos rfl, if_pos hk, if_pos rfl]; rfl
  · rw [if_neg h, if_neg (fun e => h e.symm)]
theorem HOk.with {m : Nat} {L O : List Nat} (h : HOk m L) (hl : O.length = L.length) (hi : ∀ j, j < L.length → Inc (O.getD j 0) (L.getD j 0)) : HOk m O :=
  ⟨h.n8, by rw [hl]; exact h.l8, fun k hk => (hi k (by omega)).lt (h.lt k (by omega))⟩
/-- From set k on, behind 'used': a list of elements, each one more of rank. -/
def Ext (R : Nat → Nat) (L : List Nat) : Nat → Nat → List Nat → Prop
  | k, _, [] => k = L.length
  | k, used, i :: e => k < L.length ∧ (L.getD k 0).testBit i = true ∧ R used < R (used ||| 2 ^ i) ∧ Ext R L (k + 1) (used ||| 2 ^ i) e
section
variable {m : Nat} {R : Nat → Nat} {L : List Nat}
/-- What is chosen, set by set. -/
theorem Ext.idx (hR : RkF R) (h : HOk m L) : ∀ {e : List Nat} {k used : Nat}, Ext R L k used e → ∀ q, q < e.length → (L.getD (k + q) 0).testBit (e.getD q 0) = true
  | [], _, _, _, q, hq => absurd hq (by simp)
  | i :: e, k, used, he, 0, _ => he.2.1
  | i :: e, k, used, he, q + 1, hq => by
    have := Ext.idx hR h he.2.2.2 q (by simpa using hq)
    rw [show k + (q + 1) = k + 1 + q by omega]; exact this
theorem Ext.free (hR : RkF R) (h : HOk m L) : ∀ {e : List Nat} {k used : Nat}, Ext R L k used e → used < 2 ^ m → R used = cnt m used → R (used ||| pre e e.length) = cnt m (used ||| pre e e.length) ∧ cnt m (used ||| pre e e.length) = cnt m used + e.length
  | [], k, used, he, hu, hr => by
    have : pre ([] : List Nat) 0 = 0 := rfl
    simp only [List.length_nil, this, Nat.or_zero]
    exact ⟨hr, rfl⟩
  | i :: e, k, used, he, hu, hr => by
    have hi := bit_lt (h.lt k he.1) he.2.1
    have hb : used.testBit i = false := by
      cases q : used.testBit i with
      | false => rfl
      | true =>
        have e0 : used ||| 2 ^ i = used := by rw [Nat.or_comm]; exact (or_eq_iff _ _).2 (inc_pow q)
        have e1 := he.2.2.1
        rw [e0] at e1
        omega
    have hc := cnt_add hi hb
    have hst := hR.step used i
    obtain ⟨a, b⟩ := Ext.free hR h he.2.2.2 (or_lt hu (pow_lt hi)) (by have := he.2.2.1; omega)
    have e1 : used ||| pre (i :: e) (i :: e).length = used ||| 2 ^ i ||| pre e e.length := by
      have key : ∀ n, pre (i :: e) (n + 1) = 2 ^ i ||| pre e n := fun n => by
        induction n with
        | zero => simp [pre]
        | succ n ih => rw [pre, ih, pre, Nat.or_assoc]; simp
      rw [List.length_cons, key, Nat.or_assoc]
    rw [e1]
    refine ⟨a, ?_⟩
    rw [b, hc, List.length_cons]; omega
/-- An element less in a set. -/
theorem rado_less (hR : RkF R) (h : HOk m L) (hC : ∀ s, s < 2 ^ L.length → cnt L.length s ≤ R (nb m L s)) {k x y : Nat} (hk : k < L.length) (hx : (L.getD k 0).testBit x = true) (hy : (L.getD k 0).testBit y = true) (hxy : x ≠ y) :
    (∀ s, s < 2 ^ L.length → cnt L.length s ≤ R (nb m (L.set k (dif (L.getD k 0) (2 ^ x))) s)) ∨ (∀ s, s < 2 ^ L.length → cnt L.length s ≤ R (nb m (L.set k (dif (L.getD k 0) (2 ^ y))) s)) := by
  have hset : ∀ z, HOk m (L.set k (dif (L.getD k 0) (2 ^ z))) := fun z => h.with (by rw [List.length_set]) fun j hj => by
    rw [getD_setN hk]
    split
    · rename_i c; subst c; exact inc_dif _ _
    · exact Inc.refl _
  -- a set of sets that fails has k, and without k it has little rank
  have bad : ∀ z, ¬ (∀ s, s < 2 ^ L.length → cnt L.length s ≤ R (nb m (L.set k (dif (L.getD k 0) (2 ^ z))) s)) → ∃ J, J < 2 ^ L.length ∧ J.testBit k = false ∧ R (nb m L J ||| dif (L.getD k 0) (2 ^ z)) ≤ cnt L.length J := by
    intro z hz
    obtain ⟨s, hs, hlt⟩ : ∃ s, s < 2 ^ L.length ∧ R (nb m (L.set k (dif (L.getD k 0) (2 ^ z))) s) < cnt L.length s := by
      rcases Classical.em (∃ s, s < 2 ^ L.length ∧ R (nb m (L.set k (dif (L.getD k 0) (2 ^ z))) s) < cnt L.length s) with c | c
      · exact c
      · exact absurd (fun s hs => by
          rcases Nat.lt_or_ge (R (nb m (L.set k (dif (L.getD k 0) (2 ^ z))) s)) (cnt L.length s) with d | d
          · exact absurd ⟨s, hs, d⟩ c
          · exact d) hz
    have hks : s.testBit k = true := by
      cases q : s.testBit k with
      | true => rfl
      | false =>
        exfalso
        have e : nb m (L.set k (dif (L.getD k 0) (2 ^ z))) s = nb m L s := bx fun x => by
          rw [Bool.eq_iff_iff, (hset z).nb_bit, h.nb_bit, List.length_set]
          refine exists_congr fun v => and_congr_right fun hv => and_congr_right fun hsv => ?_
          rw [getD_setN hk, if_neg (fun e => by subst e; rw [q] at hsv; cases hsv)]
        rw [e] at hlt
        have := hC s hs
        omega
    refine ⟨dif s (2 ^ k), dif_lt hs, by rw [testBit_dif, testBit_pow]; simp, ?_⟩
    have e : nb m L (dif s (2 ^ k)) ||| dif (L.getD k 0) (2 ^ z) = nb m (L.set k (dif (L.getD k 0) (2 ^ z))) s := bx fun x => by
      rw [Bool.eq_iff_iff, Nat.testBit_or, Bool.or_eq_true, (hset z).nb_bit, h.nb_bit, List.length_set]
      constructor
      · rintro (⟨v, v1, v2, v3⟩ | q)
        · rw [testBit_dif, testBit_pow, Bool.and_eq_true, Bool.not_eq_true', decide_eq_false_iff_not] at v2
          exact ⟨v, v1, v2.1, by rw [getD_setN hk, if_neg (fun e => v2.2 e.symm)]; exact v3⟩
        · exact ⟨k, hk, hks, by rw [getD_setN hk, if_pos rfl]; exact q⟩
      · rintro ⟨v, v1, v2, v3⟩
        rw [getD_setN hk] at v3
        split at v3
        · exact .inr v3
        · rename_i c
          exact .inl ⟨v, v1, by rw [testBit_dif, v2, testBit_pow]; simp; exact fun e => c e.symm, v3⟩
    rw [e]
    have := cnt_dif hs hks
    omega
  rcases Classical.em (∀ s, s < 2 ^ L.length → cnt L.length s ≤ R (nb m (L.set k (dif (L.getD k 0) (2 ^ x))) s)) with c | c
  · exact .inl c
  rcases Classical.em (∀ s, s < 2 ^ L.length → cnt L.length s ≤ R (nb m (L.set k (dif (L.getD k 0) (2 ^ y))) s)) with d | d
  · exact .inr d
  exfalso
  obtain ⟨J1, a1, a2, a3⟩ := bad x c
  obtain ⟨J2, b1, b2, b3⟩ := bad y d
  have s1 := hR.sub (nb m L J1 ||| dif (L.getD k 0) (2 ^ x)) (nb m L J2 ||| dif (L.getD k 0) (2 ^ y))
  have hnk : (J1 ||| J2).testBit k = false := by rw [Nat.testBit_or, a2, b2]; rfl
  have c1 := hC ((J1 ||| J2) ||| 2 ^ k) (or_lt (or_lt a1 b1) (pow_lt hk))
  have c2 := hC (J1 &&& J2) (and_lt a1)
  rw [cnt_add hk hnk] at c1
  have c3 := cnt_or_and L.length J1 J2
  have m1 : R (nb m L ((J1 ||| J2) ||| 2 ^ k)) ≤ R (nb m L J1 ||| dif (L.getD k 0) (2 ^ x) ||| (nb m L J2 ||| dif (L.getD k 0) (2 ^ y))) := hR.mono _ _ fun z hz => by
    obtain ⟨v, v1, v2, v3⟩ := (h.nb_bit _ z).1 hz
    rw [Nat.testBit_or, Nat.testBit_or, Bool.or_eq_true, Bool.or_eq_true, testBit_pow, decide_eq_true_eq] at v2
    rw [Nat.testBit_or, Nat.testBit_or, Nat.testBit_or, Bool.or_eq_true, Bool.or_eq_true, Bool.or_eq_true]
    rcases v2 with (v2 | v2) | v2
    · exact .inl (.inl ((h.nb_bit _ z).2 ⟨v, v1, v2, v3⟩))
    · exact .inr (.inl ((h.nb_bit _ z).2 ⟨v, v1, v2, v3⟩))
    · subst v2
      rcases Classical.em (z = x) with e | e
      · exact .inr (.inr (by rw [testBit_dif, v3, testBit_pow]; simp; omega))
      · exact .inl (.inr (by rw [testBit_dif, v3, testBit_pow]; simp; omega))
  have m2 : R (nb m L (J1 &&& J2)) ≤ R ((nb m L J1 ||| dif (L.getD k 0) (2 ^ x)) &&& (nb m L J2 ||| dif (L.getD k 0) (2 ^ y))) := hR.mono _ _ fun z hz => by
    obtain ⟨v, v1, v2, v3⟩ := (h.nb_bit _ z).1 hz
    rw [Nat.testBit_and, Bool.and_eq_true] at v2
    rw [Nat.testBit_and, Nat.testBit_or, Nat.testBit_or, (h.nb_bit J1 z).2 ⟨v, v1, v2.1, v3⟩, (h.nb_bit J2 z).2 ⟨v, v1, v2.2, v3⟩]; rfl
  omega
theorem set_self {k : Nat} (hk : k < L.length) : L.set k (L.getD k 0) = L := by
  apply List.ext_getElem?
  intro j
  rw [List.getElem?_set]
  split
  · rename_i c; subst c; rw [List.getD_eq_getElem?_getD, List.getElem?_eq_getElem hk]; rfl
  · rfl
/-- One set down to one element. -/
theorem rado_one (hR : RkF R) {k : Nat} : ∀ (n : Nat) (L : List Nat), HOk m L → (∀ s, s < 2 ^ L.length → cnt L.length s ≤ R (nb m L s)) → k < L.length → cnt m (L.getD k 0) ≤ n → ∃ x, (L.getD k 0).testBit x = true ∧ ∀ s, s < 2 ^ L.length → cnt L.length s ≤ R (nb m (L.set k (2 ^ x)) s)
  | n, L, h, hC, hk, hn => by
    have hlk := h.lt k hk
    have h1 := hC (2 ^ k) (pow_lt hk)
    have e1 : nb m L (2 ^ k) = L.getD k 0 := bx fun x => by
      rw [Bool.eq_iff_iff, h.nb_bit]
      constructor
      · rintro ⟨v, _, v2, v3⟩
        rw [testBit_pow, decide_eq_true_eq] at v2
        subst v2; exact v3
      · intro hx; exact ⟨k, hk, by rw [testBit_pow]; simp, hx⟩
    have e2 : cnt L.length (2 ^ k) = 1 := by
      have := cnt_add (m := L.length) (s := 0) hk (by simp)
      rwa [Nat.zero_or, cnt_zero] at this
    have hne : L.getD k 0 ≠ 0 := fun e => by rw [e1, e, hR.zero] at h1; omega
    obtain ⟨x, hx⟩ := exists_bit hne
    have hcx := cnt_dif hlk hx
    rcases Classical.em (dif (L.getD k 0) (2 ^ x) = 0) with c | c
    · refine ⟨x, hx, ?_⟩
      have e : 2 ^ x = L.getD k 0 := by
        have := dif_or hx
        rw [c, Nat.zero_or] at this; exact this
      rw [e, set_self hk]; exact hC
    · obtain ⟨y, hy⟩ := exists_bit c
      rw [testBit_dif, testBit_pow, Bool.and_eq_true, Bool.not_eq_true', decide_eq_false_iff_not] at hy
      have hcy := cnt_dif hlk hy.1
      match n, hn with
      | 0, hn => omega
      | n + 1, hn =>
        have step : ∀ z, (L.getD k 0).testBit z = true → cnt m (dif (L.getD k 0) (2 ^ z)) ≤ n → (∀ s, s < 2 ^ L.length → cnt L.length s ≤ R (nb m (L.set k (dif (L.getD k 0) (2 ^ z))) s)) → ∃ x, (L.getD k 0).testBit x = true ∧ ∀ s, s < 2 ^ L.length → cnt L.length s ≤ R (nb m (L.set k (2 ^ x)) s) := fun z hz hcz hCz => by
          have hset : HOk m (L.set k (dif (L.getD k 0) (2 ^ z))) := h.with (by rw [List.length_set]) fun j hj => by
            rw [getD_setN hk]
            split
            · rename_i c; subst c; exact inc_dif _ _
            · exact Inc.refl _
          obtain ⟨w, w1, w2⟩ := rado_one hR n (L.set k (dif (L.getD k 0) (2 ^ z))) hset (by rw [List.length_set]; exact hCz) (by rw [List.length_set]; exact hk) (by rw [getD_setN hk, if_pos rfl]; exact hcz)
          rw [getD_setN hk, if_pos rfl] at w1
          rw [List.length_set, List.set_set] at w2
          exact ⟨w, inc_dif _ _ w w1, w2⟩
        rcases rado_less hR h hC hk hx hy.1 hy.2 with d | d
        · exact step x hx (by omega) d
        · exact step y hy.1 (by omega) d
theorem rado_all (hR : RkF R) (h : HOk m L) (hC : ∀ s, s < 2 ^ L.length → cnt L.length s ≤ R (nb m L s)) : ∀ n, n ≤ L.length → ∃ L' : List Nat, L'.length = L.length ∧ (∀ j, j < n → ∃ x, (L.getD j 0).testBit x = true ∧ L'.getD j 0 = 2 ^ x) ∧ (∀ j, n ≤ j → L'.getD j 0 = L.getD j 0) ∧ (∀ s, s < 2 ^ L.length → cnt L.length s ≤ R (nb m L' s))
  | 0, _ => ⟨L, rfl, none_all, fun _ _ => rfl, hC⟩
  | n + 1, hn => by
    obtain ⟨L', l1, l2, l3, l4⟩ := rado_all hR h hC n (by omega)
    have hL' : HOk m L' := h.with l1 fun j hj => by
      rcases Nat.lt_or_ge j n with c | c
      · obtain ⟨x, x1, x2⟩ := l2 j c
        rw [x2]; exact inc_pow x1
      · rw [l3 j c]; exact Inc.refl _
    obtain ⟨x, x1, x2⟩ := rado_one hR (k := n) (cnt m (L'.getD n 0)) L' hL' (by rw [l1]; exact l4) (by omega) (Nat.le_refl _)
    rw [l3 n (Nat.le_refl _)] at x1
    rw [l1] at x2
    refine ⟨L'.set n (2 ^ x), by rw [List.length_set, l1], fun j hj => ?_, fun j hj => ?_, x2⟩
    · rw [getD_setN (by omega)]
      rcases Nat.lt_succ_iff_lt_or_eq.1 hj with c | c
      · rw [if_neg (by omega)]; exact l2 j c
      · subst c; exact ⟨x, x1, by rw [if_pos rfl]⟩
    · rw [getD_setN (by omega), if_neg (by omega)]; exact l3 j (by omega)
/-- RADO. -/
theorem rado (hR : RkF R) (h : HOk m L) (hC : ∀ s, s < 2 ^ L.length → cnt L.length s ≤ R (nb m L s)) : ∃ e, Ext R L 0 0 e := by
  obtain ⟨L', l1, l2, _, l4⟩ := rado_all hR h hC L.length (Nat.le_refl _)
  have hm8 := h.n8
  have hp8 : 2 ^ m ≤ 2 ^ 8 := Nat.pow_le_pow_right (by omega) hm8
  have ex : ∀ j, ∃ x, j < L.length → (L.getD j 0).testBit x = true ∧ L'.getD j 0 = 2 ^ x := fun j => by
    rcases Nat.lt_or_ge j L.length with c | c
    · obtain ⟨x, hx⟩ := l2 j c; exact ⟨x, fun _ => hx⟩
    · exact ⟨0, fun q => absurd q (by omega)⟩
  obtain ⟨g, hg⟩ := Classical.axiomOfChoice ex
  have hL' : HOk m L' := h.with l1 fun j hj => by rw [(hg j hj).2]; exact inc_pow (hg j hj).1
  have gm : ∀ j, j < L.length → g j < m := fun j hj => bit_lt (h.lt j hj) (hg j hj).1
  -- what the first ones choose
  have pg : ∃ u : Nat → Nat, u 0 = 0 ∧ (∀ k, u (k + 1) = u k ||| 2 ^ g k) ∧ ∀ k i, (u k).testBit i = true ↔ ∃ j, j < k ∧ g j = i := by
    refine ⟨fun k => Nat.rec 0 (fun k a => a ||| 2 ^ g k) k, rfl, fun k => rfl, fun k i => ?_⟩
    induction k with
    | zero => exact ⟨fun q => absurd q (by show ¬ (0 : Nat).testBit i = true; simp), fun ⟨j, h, _⟩ => absurd h (by omega)⟩
    | succ k ih =>
      show ((Nat.rec 0 (fun k a => a ||| 2 ^ g k) k : Nat) ||| 2 ^ g k).testBit i = true ↔ _
      rw [Nat.testBit_or, testBit_pow, Bool.or_eq_true, ih, decide_eq_true_eq]
      constructor
      · rintro (⟨j, h1, h2⟩ | h)
        · exact ⟨j, by omega, h2⟩
        · exact ⟨k, by omega, h⟩
      · rintro ⟨j, h1, h2⟩
        rcases Nat.lt_succ_iff_lt_or_eq.1 h1 with c | c
        · exact .inl ⟨j, c, h2⟩
        · subst c; exact .inr h2
  obtain ⟨u, u0, us, ub⟩ := pg
  have ul : ∀ k, k ≤ L.length → u k < 2 ^ m := fun k hk => lt_of_bits fun i hi => by
    cases q : (u k).testBit i with
    | false => rfl
    | true =>
      obtain ⟨j, j1, j2⟩ := (ub k i).1 q
      have := gm j (by omega)
      omega
  have hcl : ∀ k, k ≤ L.length → cnt m (u k) ≤ k := fun k => by
    induction k with
    | zero => intro _; rw [u0, cnt_zero]; omega
    | succ k ih =>
      intro hk
      have := ih (by omega)
      rw [us]
      have h1 := cnt_or_and m (u k) (2 ^ g k)
      have h2 := cnt_add (m := m) (s := 0) (gm k (by omega)) (by simp)
      rw [Nat.zero_or, cnt_zero] at h2
      omega
  have hge : ∀ k, k ≤ L.length → k ≤ R (u k) := fun k hk => by
    have hs : 2 ^ k - 1 < 2 ^ L.length := by
      have h1 : 2 ^ k ≤ 2 ^ L.length := Nat.pow_le_pow_right (by omega) hk
      have h2 : 0 < 2 ^ k := Nat.pow_pos (by omega)
      omega
    have := l4 (2 ^ k - 1) hs
    have e1 : cnt L.length (2 ^ k - 1) = k := by
      have hlt : 2 ^ k - 1 < 2 ^ k := by have h2 : 0 < 2 ^ k := Nat.pow_pos (by omega); omega
      rw [cnt_of_lt hlt hk]
      have := cpl_cnt (m := k) (s := 0)
      rw [cnt_zero] at this
      have e : cpl k 0 = 2 ^ k - 1 := set_ext (cpl_lt _ _) (full_lt k) fun i hi => by rw [cpl_bit, full_bit]; simp
      rw [e] at this; omega
    have e2 : nb m L' (2 ^ k - 1) = u k := bx fun i => by
      rw [Bool.eq_iff_iff, hL'.nb_bit, ub, l1]
      constructor
      · rintro ⟨v, v1, v2, v3⟩
        rw [full_bit, decide_eq_true_eq] at v2
        rw [(hg v v1).2, testBit_pow, decide_eq_true_eq] at v3
        exact ⟨v, v2, v3⟩
      · rintro ⟨j, j1, j2⟩
        exact ⟨j, by omega, by rw [full_bit]; simp [j1], by rw [(hg j (by omega)).2, testBit_pow, j2]; simp⟩
    rw [e1, e2] at this; exact this
  have hup : ∀ k, k ≤ L.length → R (u k) ≤ k := fun k hk => by
    have := hR.le (b := u k) (by have := ul k hk; omega)
    rw [cnt8 hm8 (ul k hk)] at this
    have := hcl k hk
    omega
  have key : ∀ d k, k + d = L.length → ∃ e, Ext R L k (u k) e := fun d => by
    induction d with
    | zero => intro k hk; exact ⟨[], hk⟩
    | succ d ih =>
      intro k hk
      obtain ⟨e, he⟩ := ih (k + 1) (by omega)
      refine ⟨g k :: e, by omega, (hg k (by omega)).1, ?_, by rw [← us]; exact he⟩
      rw [← us]
      have := hge (k + 1) (by omega)
      have := hup k (by omega)
      omega
  have := key L.length 0 (by omega)
  rw [u0] at this; exact this
end
/-! ### HALL -/
theorem dif_or3 (a b s : Nat) : dif (a ||| b) s = dif a s ||| dif b s := bx fun j => by
  rw [testBit_dif, Nat.testBit_or, Nat.testBit_or, testBit_dif, testBit_dif]
  cases a.testBit j <;> cases b.testBit j <;> cases s.testBit j <;> rfl
theorem dif_and (a b s : Nat) : dif (a &&& b) s = dif a s &&& dif b s := bx fun j => by
  rw [testBit_dif, Nat.testBit_and, Nat.testBit_and, testBit_dif, testBit_dif]
  cases a.testBit j <;> cases b.testBit j <;> cases s.testBit j <;> rfl
theorem outR (s : Nat) : RkF (fun X => cnt 8 (dif X s)) where
  zero := by
    show cnt 8 (dif 0 s) = 0
    rw [show dif 0 s = 0 from bx fun j => by rw [testBit_dif]; simp, cnt_zero]
  mono := fun a b h => cnt_le_of_inc fun i hi => by
    rw [testBit_dif, Bool.and_eq_true] at hi ⊢
    exact ⟨h i hi.1, hi.2⟩
  step := fun a i => by
    show cnt 8 (dif (a ||| 2 ^ i) s) ≤ cnt 8 (dif a s) + 1
    rw [dif_or3]
    have h1 := cnt_or_and 8 (dif a s) (dif (2 ^ i) s)
    have h2 : cnt 8 (dif (2 ^ i) s) ≤ 1 := by
      have h3 := cnt_le_of_inc (m := 8) (inc_dif (2 ^ i) s)
      have h4 : cnt 8 (2 ^ i) ≤ 1 := by
        rcases Nat.lt_or_ge i 8 with c | c
        · have := cnt_add (m := 8) (s := 0) c (by simp)
          rw [Nat.zero_or, cnt_zero] at this
          omega
        · have e : cnt 8 (2 ^ i) = cnt 8 0 := cnt_congr fun j hj => by rw [testBit_pow]; simp; omega
          rw [e, cnt_zero]; omega
      omega
    omega
  sub := fun a b => by
    show cnt 8 (dif (a ||| b) s) + cnt 8 (dif (a &&& b) s) ≤ cnt 8 (dif a s) + cnt 8 (dif b s)
    rw [dif_or3, dif_and]
    exact Nat.le_of_eq (cnt_or_and 8 _ _)
theorem Ext.inj {s : Nat} {L : List Nat} : ∀ {e : List Nat} {k used : Nat}, Ext (fun X => cnt 8 (dif X s)) L k used e → ∀ q, q < e.length → s.testBit (e.getD q 0) = false ∧ used.testBit (e.getD q 0) = false ∧ ∀ r, r < q → e.getD r 0 ≠ e.getD q 0
  | [], k, used, _, q, hq => by simp at hq
  | i :: e, k, used, h, q, hq => by
    obtain ⟨_, _, h3, h4⟩ := h
    have hi : s.testBit i = false ∧ used.testBit i = false := by
      have bad : (s.testBit i = true ∨ used.testBit i = true) → False := fun w => by
        have e : dif (used ||| 2 ^ i) s = dif used s := bx fun j => by
          rw [testBit_dif, testBit_dif, Nat.testBit_or, testBit_pow]
          by_cases c : i = j
          · subst c
            rcases w with w | w
            · rw [w]; simp
            · rw [w]; simp
          · simp [c]
        simp only [e] at h3
        exact absurd h3 (Nat.lt_irrefl _)
      constructor
      · cases c : s.testBit i with
        | false => rfl
        | true => exact (bad (.inl c)).elim
      · cases c : used.testBit i with
        | false => rfl
        | true => exact (bad (.inr c)).elim
    cases q with
    | zero => exact ⟨hi.1, hi.2, fun r hr => by omega⟩
    | succ q =>
      obtain ⟨a, b, c⟩ := Ext.inj h4 q (by simpa using hq)
      rw [Nat.testBit_or, testBit_pow, Bool.or_eq_false_iff, decide_eq_false_iff_not] at b
      refine ⟨a, b.1, fun r hr => ?_⟩
      cases r with
      | zero => exact b.2
      | succ r => exact c r (by omega)
theorem Ext.cnt {R : Nat → Nat} {L : List Nat} : ∀ {e : List Nat} {k used : Nat}, Ext R L k used e → k + e.length = L.length
  | [], k, used, h => h
  | i :: e, k, used, h => by have := Ext.cnt h.2.2.2; simp only [List.length_cons]; omega
/-- HALL: representatives outside a set. -/
theorem hall {m s : Nat} {L : List Nat} (h : HOk m L) (hC : ∀ J, J < 2 ^ L.length → cnt L.length J ≤ Go.SH.cnt m (dif (nb m L J) s)) : ∃ g : Nat → Nat, (∀ k, k < L.length → (L.getD k 0).testBit (g k) = true ∧ s.testBit (g k) = false) ∧ ∀ j k, j < L.length → k < L.length → g j = g k → j = k := by
  have hm8 := h.n8
  obtain ⟨e, he⟩ := rado (R := fun X => Go.SH.cnt 8 (dif X s)) (outR s) h fun J hJ => by
    rw [cnt8 hm8 (dif_lt (nb_lt m L J))]; exact hC J hJ
  have hl := he.cnt
  have hi := he.inj
  have hx := Ext.idx (outR s) h he
  refine ⟨fun k => e.getD k 0, fun k hk => ⟨?_, (hi k (by omega)).1⟩, fun j k hj hk q => ?_⟩
  · have := hx k (by omega)
    rwa [Nat.zero_add] at this
  · rcases Nat.lt_trichotomy j k with c | c | c
    · exact absurd q ((hi k (by omega)).2.2 j c)
    · exact c
    · exact absurd q.symm ((hi j (by omega)).2.2 k c)
end Go.SH
