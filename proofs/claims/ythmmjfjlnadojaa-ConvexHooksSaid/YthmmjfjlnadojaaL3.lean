/-
  Package convex as it computes: antimatroids, hulls, extreme elements; the statement ConvexJamison as a plain law. Conditions: lists are no longer than 2^63 - 1.
-/
import Derived.Test.YthmmjfjlnadojaaLS
import Derived.Test.YthmmjfjlnadojaaSpconvex
import Derived.Test.YthmmjfjlnadojaaSprotaref
import Derived.Test.YthmmjfjlnadojaaSkConvexJamison
set_option linter.unusedSimpArgs false
set_option linter.unusedVariables false
namespace Go.SH
open Go Go.AX

/-- What can be taken away, one behind the other. -/
structure Anti (m : Nat) (L : List Nat) : Prop extends Fam m L where
  z : 0 ∈ L
  full : 2 ^ m - 1 ∈ L
  acc : ∀ s, s ∈ L → s ≠ 0 → ∃ i, s.testBit i = true ∧ dif s (2 ^ i) ∈ L
  un : ∀ s, s ∈ L → ∀ t, t ∈ L → s ||| t ∈ L

theorem convex_has_spec {l : List Int} (h : Rise l) (hl : l.length < 2 ^ 60) (t : Int) : convex_has l t = some (decide (t ∈ l)) := by
  refine Gets.eq ?_
  unfold convex_has
  refine gBind (BinarySearch_spec l t h hl) fun r hr => gSome ?_
  rw [Bool.eq_iff_iff, hr, decide_eq_true_eq]
theorem Fam.has {m : Nat} {L : List Nat} (h : Fam m L) (a : Nat) : convex_has (cs L) (a : Int) = some (decide (a ∈ L)) := by
  rw [convex_has_spec h.Rise (by have := h.len; simp; omega)]
  congr 1
  rw [Bool.eq_iff_iff]; simp [cs_mem]

/-- Elements of a set one by one till one of a kind is found: those less than the least left are looked at. -/
theorem convex_Check_spec (n : Int) (l : List Int) (hl : l.length ≤ 9223372036854775807) : Gets (convex_Check n l) (fun r => (r = 0 ∧ ∃ m L, n = (m : Nat) ∧ l = cs L ∧ Anti m L) ∨ (r ≠ 0 ∧ ¬ ∃ m L, n = (m : Nat) ∧ l = cs L ∧ Anti m L)) := by
  unfold convex_Check
  refine gBind (sets_Family_spec n l hl) fun y hy => gIte (fun h => gSome (.inr ⟨h, ?_⟩)) fun h => ?_
  · rintro ⟨m, L, h1, h2, h3⟩
    rcases hy with ⟨q, _⟩ | ⟨_, q⟩
    · exact h q
    · exact q ⟨m, L, h1, h2, h3.toFam⟩
  obtain ⟨m, L, rfl, rfl, hf⟩ : ∃ m L, n = (m : Nat) ∧ l = cs L ∧ Fam m L := by
    rcases hy with ⟨_, q⟩ | ⟨q, _⟩
    · exact q
    · omega
  have h8 := hf.m8
  have h256 := pow_le8 h8
  have hlen := hf.len
  have hpos : 0 < 2 ^ m := Nat.pow_pos (by omega)
  have uniq : ∀ {p : Nat → List Nat → Prop}, (∃ m' L', (m : Int) = (m' : Nat) ∧ cs L = cs L' ∧ p m' L') → p m L := by
    rintro p ⟨m', L', h1, h2, h3⟩
    have : m' = m := by omega
    subst this
    rw [← cs_inj h2] at h3; exact h3
  have e0 : ((L.length : Int) - 1).toNat = L.length - 1 := by omega
  simp only [cs_len, e0, toNat_nat, shl_nat', cs_get]
  refine gChk (by omega) (gIte (fun h1 => gSome (.inr ⟨by omega, fun hn => ?_⟩)) fun h1 => ?_)
  · have ha := uniq hn
    have hp : 0 < L.length := List.length_pos_iff.2 (List.ne_nil_of_mem ha.z)
    obtain ⟨k, h2, h3⟩ := mem_getD.1 ha.z
    have h4 := hf.ge k h2
    have : k = 0 := by omega
    subst this
    obtain ⟨k, h5, h6⟩ := mem_getD.1 ha.full
    have h7 : k = L.length - 1 := by
      rcases Nat.lt_or_ge k (L.length - 1) with q | q
      · have h8 := hf.rise k (L.length - 1) q (by omega)
        have h9 := hf.lt _ (mem_getD.2 ⟨L.length - 1, by omega, rfl⟩)
        omega
      · omega
    subst h7
    omega
  · have hp : 0 < L.length := by omega
    have hz : 0 ∈ L := mem_getD.2 ⟨0, hp, by omega⟩
    have hfu : 2 ^ m - 1 ∈ L := mem_getD.2 ⟨L.length - 1, by omega, by omega⟩
    let A : Nat → Prop := fun s => s ≠ 0 → ∃ i, s.testBit i = true ∧ dif s (2 ^ i) ∈ L
    let U : Nat → Nat → Prop := fun s t => s ||| t ∈ L
    refine gBind (R := fun z => match z with | .inl _ => ∀ k, k < L.length → A (L.getD k 0) ∧ ∀ j, j < L.length → U (L.getD k 0) (L.getD j 0) | .inr r => r = 3 ∧ ¬ ∀ k, k < L.length → A (L.getD k 0) ∧ ∀ j, j < L.length → U (L.getD k 0) (L.getD j 0))
      (gFor L.length (fun k v => v = (k : Int) ∧ ∀ i, i < k → A (L.getD i 0) ∧ ∀ j, j < L.length → U (L.getD i 0) (L.getD j 0)) (Nat.zero_le _) ⟨rfl, none_all⟩ ?_) ?_
    · rintro k _ hk ⟨rfl, hb⟩
      refine gIte (fun h2 => gChk (by omega) ?_) fun h2 => gSome fun j hj => hb j (by omega)
      simp only [toNat_nat]
      have hs := hf.lt _ (mem_getD.2 ⟨k, by omega, rfl⟩)
      obtain ⟨s, hs'⟩ : ∃ s, L.getD k 0 = s := ⟨_, rfl⟩
      rw [hs'] at hs
      simp only [hs']
      -- one by one
      refine gBind (R := fun r => r = true ↔ A s) (gLoop (fun x => ∃ t : Nat, x.2 = (t : Int) ∧ t < 256 ∧ (∀ i, t.testBit i = true → s.testBit i = true) ∧ (x.1 = true ↔ s = 0 ∨ ∃ i, s.testBit i = true ∧ t.testBit i = false ∧ dif s (2 ^ i) ∈ L)) (fun x => x.2.toNat) ⟨s, rfl, by omega, fun i h => h, ?_⟩ ?_) ?_
      · rw [decide_eq_true_eq]
        constructor
        · intro q; left; omega
        · rintro (q | ⟨i, q1, q2, _⟩)
          · omega
          · rw [q1] at q2; cases q2
      · rintro ⟨b, _⟩ ⟨t, rfl, ht, hts, hbt⟩
        simp only at hbt ⊢
        refine gIte (fun h3 => ?_) fun h3 => gSome ?_
        · have hlow := low_spec ht (show t ≠ 0 by omega)
          rw [hlow.neg, hlow.rest, dif_nat]
          refine gChk (by omega) (gBindE (a := if b = true then false else decide (dif s (2 ^ lo1 t) ∈ L)) ?_ (gChk (by omega) (gSome ⟨⟨dif t (2 ^ lo1 t), rfl, by have := hlow.less; omega, fun i hi => ?_, ?_⟩, by have := hlow.less; simp only [toNat_nat]; omega⟩)))
          · cases b <;> simp [hf.has]
          · rw [testBit_dif] at hi; simp only [Bool.and_eq_true] at hi; exact hts i hi.1
          · rw [decide_eq_true_eq]
            constructor
            · rintro (h4 | h4)
              · rcases hbt.1 h4 with q | ⟨i, q1, q2, q3⟩
                · exact .inl q
                · exact .inr ⟨i, q1, by rw [testBit_dif, q2]; rfl, q3⟩
              · have hb' : b = false := by cases b <;> simp_all
                subst hb'
                simp only [Bool.false_eq_true, if_false, decide_eq_true_eq] at h4
                exact .inr ⟨lo1 t, hts _ hlow.bit, by rw [testBit_dif, testBit_pow]; simp, h4⟩
            · rintro (h4 | ⟨i, q1, q2, q3⟩)
              · exact .inl (hbt.2 (.inl h4))
              · by_cases e : i = lo1 t
                · subst e
                  cases b
                  · right; simpa using q3
                  · left; rfl
                · left
                  refine hbt.2 (.inr ⟨i, q1, ?_, q3⟩)
                  rw [testBit_dif, testBit_pow] at q2
                  have : decide (lo1 t = i) = false := by simp; exact fun h => e h.symm
                  rw [this] at q2; simpa using q2
        · have : t = 0 := by omega
          subst this
          show b = true ↔ A s
          rw [hbt]
          constructor
          · rintro (q | ⟨i, q1, _, q3⟩) h4
            · exact absurd q h4
            · exact ⟨i, q1, q3⟩
          · intro q
            by_cases h4 : s = 0
            · exact .inl h4
            · obtain ⟨i, q1, q3⟩ := q h4
              exact .inr ⟨i, q1, by simp, q3⟩
      · rintro v3 hv3
        refine gIte (fun h3 => gSome ⟨rfl, fun h4 => ?_⟩) fun h3 => ?_
        · have := (h4 k (by omega)).1
          rw [hs'] at this
          exact h3 (hv3.2 this)
        · have hA : A s := hv3.1 (by cases v3 <;> simp_all)
          refine gBind (R := fun z => match z with | .inl _ => ∀ j, j < L.length → U s (L.getD j 0) | .inr r => r = 3 ∧ ¬ ∀ j, j < L.length → U s (L.getD j 0))
            (gFor L.length (fun k v => v = (k : Int) ∧ ∀ j, j < k → U s (L.getD j 0)) (Nat.zero_le _) ⟨rfl, none_all⟩ ?_) ?_
          · rintro j _ hj ⟨rfl, hbj⟩
            refine gIte (fun h4 => gChk (by omega) ?_) fun h4 => gSome fun i hi => hbj i (by omega)
            simp only [toNat_nat, or_nat, hf.has, Option.bind_some]
            refine gIte (fun h5 => gSome ⟨rfl, fun h6 => h5 (decide_eq_true (h6 j (by omega)))⟩) fun h5 => gSome ⟨by omega, by simp, step_all hbj ?_⟩
            simpa using h5
          · rintro (u | rr) hz2
            · exact gSome ⟨by omega, by simp, step_all hb (by rw [hs']; exact ⟨hA, hz2⟩)⟩
            · refine gSome ⟨hz2.1, fun h4 => hz2.2 fun j hj => ?_⟩
              have := (h4 k (by omega)).2 j hj
              rwa [hs'] at this
    · rintro (u | rr) hz'
      · refine gSome (.inl ⟨rfl, m, L, rfl, rfl, hf, hz, hfu, fun s hs => ?_, fun s hs t ht => ?_⟩)
        · obtain ⟨k, h2, rfl⟩ := mem_getD.1 hs
          exact (hz' k h2).1
        · obtain ⟨k, h2, rfl⟩ := mem_getD.1 hs
          obtain ⟨j, h3, rfl⟩ := mem_getD.1 ht
          exact (hz' k h2).2 j h3
      · refine gSome (.inr ⟨by rw [hz'.1]; simp, fun hn => hz'.2 fun k hk => ?_⟩)
        have ha := uniq hn
        exact ⟨ha.acc _ (mem_getD.2 ⟨k, hk, rfl⟩), fun j hj => ha.un _ (mem_getD.2 ⟨k, hk, rfl⟩) _ (mem_getD.2 ⟨j, hj, rfl⟩)⟩

/-! ### hulls -/
/-- All that can be taken away beside a set. -/
def best (L : List Nat) (s : Nat) : Nat := (L.filter fun t => t &&& s = 0).foldl (· ||| ·) 0
theorem foldl_or_bit (l : List Nat) (a i : Nat) : (l.foldl (· ||| ·) a).testBit i = true ↔ a.testBit i = true ∨ ∃ t, t ∈ l ∧ t.testBit i = true := by
  induction l generalizing a with
  | nil => simp
  | cons b l ih =>
    rw [List.foldl_cons, ih, Nat.testBit_or, Bool.or_eq_true]
    constructor
    · rintro ((h | h) | ⟨t, h1, h2⟩)
      · exact .inl h
      · exact .inr ⟨b, by simp, h⟩
      · exact .inr ⟨t, by simp [h1], h2⟩
    · rintro (h | ⟨t, h1, h2⟩)
      · exact .inl (.inl h)
      · rcases List.mem_cons.1 h1 with rfl | h1
        · exact .inl (.inr h2)
        · exact .inr ⟨t, h1, h2⟩
theorem best_bit (L : List Nat) (s i : Nat) : (best L s).testBit i = true ↔ ∃ t, t ∈ L ∧ t &&& s = 0 ∧ t.testBit i = true := by
  unfold best
  rw [foldl_or_bit]
  constructor
  · rintro (h | ⟨t, h1, h2⟩)
    · simp at h
    · rw [List.mem_filter, decide_eq_true_eq] at h1
      exact ⟨t, h1.1, h1.2, h2⟩
  · rintro ⟨t, h1, h2, h3⟩
    exact .inr ⟨t, by rw [List.mem_filter, decide_eq_true_eq]; exact ⟨h1, h2⟩, h3⟩
theorem Anti.best_mem {m : Nat} {L : List Nat} (h : Anti m L) (s : Nat) : best L s ∈ L := by
  unfold best
  have : ∀ (l : List Nat) (a : Nat), (∀ t, t ∈ l → t ∈ L) → a ∈ L → l.foldl (· ||| ·) a ∈ L := by
    intro l
    induction l with
    | nil => intro a _ ha; exact ha
    | cons b l ih => intro a hl ha; exact ih _ (fun t ht => hl t (by simp [ht])) (h.un _ ha _ (hl b (by simp)))
  exact this _ _ (fun t ht => (List.mem_filter.1 ht).1) h.z
theorem best_disj (L : List Nat) (s : Nat) : best L s &&& s = 0 := by
  rw [disj_iff]; intro i hi
  obtain ⟨t, _, h2, h3⟩ := (best_bit L s i).1 hi
  exact (disj_iff t s).1 h2 i h3
theorem best_max {L : List Nat} {s t : Nat} (ht : t ∈ L) (h : t &&& s = 0) : Inc t (best L s) := fun i hi => (best_bit L s i).2 ⟨t, ht, h, hi⟩
/-- The hull. -/
def hullOf (m : Nat) (L : List Nat) (s : Nat) : Nat := dif (2 ^ m - 1) (best L s)
theorem hullOf_bit {m : Nat} {L : List Nat} {s i : Nat} : (hullOf m L s).testBit i = true ↔ i < m ∧ ¬ (best L s).testBit i = true := by
  unfold hullOf
  rw [testBit_dif, Nat.testBit_two_pow_sub_one]; simp
theorem hullOf_lt (m : Nat) (L : List Nat) (s : Nat) : hullOf m L s < 2 ^ m := dif_lt (by have : 0 < 2 ^ m := Nat.pow_pos (by omega)
                                                                                          omega)

theorem convex_hull_spec {m : Nat} {L : List Nat} (hf : Fam m L) (s : Nat) : convex_hull m (cs L) s = some (hullOf m L s : Nat) := by
  refine Gets.eq ?_
  have hlen := hf.len
  have h8 := hf.m8
  have h256 := pow_le8 h8
  have hpos : 0 < 2 ^ m := Nat.pow_pos (by omega)
  unfold convex_hull
  refine gBind (R := fun r => r = ((best L s : Nat) : Int)) (gFor L.length (fun k x => x.2 = (k : Int) ∧ x.1 = ((best (L.take k) s : Nat) : Int)) (Nat.zero_le _) ⟨rfl, rfl⟩ ?_) ?_
  · rintro k ⟨b, _⟩ hk ⟨rfl, rfl⟩
    simp only [cs_len]
    refine gIte (fun h1 => gChk (by omega) ?_) fun h1 => gSome (by rw [List.take_of_length_le (by omega)])
    simp only [toNat_nat, cs_get, and_nat, or_nat]
    have e : L.take (k + 1) = L.take k ++ [L.getD k 0] := by
      rw [List.take_succ_eq_append_getElem (by omega), List.getD_eq_getElem?_getD, List.getElem?_eq_getElem (by omega)]; rfl
    refine gIte (fun h2 => gSome ⟨by omega, by simp, ?_⟩) fun h2 => gSome ⟨by omega, by simp, ?_⟩
    · rw [e]; unfold best; rw [List.filter_append, List.foldl_append]
      have : decide (L.getD k 0 &&& s = 0) = true := decide_eq_true (by omega)
      simp only [List.filter_cons, List.filter_nil, this, if_true, List.foldl_cons, List.foldl_nil]
    · rw [e]; unfold best; rw [List.filter_append, List.foldl_append]
      have : decide (L.getD k 0 &&& s = 0) = false := decide_eq_false (by omega)
      simp only [List.filter_cons, List.filter_nil, this, Bool.false_eq_true, if_false, List.foldl_nil]
  · rintro _ rfl
    have e : (((2 ^ m : Nat) : Int) - 1) = ((2 ^ m - 1 : Nat) : Int) := by omega
    simp only [toNat_nat, shl_nat', e, dif_nat]
    exact gChk (by omega) (gSome rfl)

theorem convex_right_spec (n : Int) (l : List Int) (s : Int) (hl : l.length ≤ 9223372036854775807) : Gets (convex_right n l s) (fun r => (r = 0 ∧ ∃ m L a, n = (m : Nat) ∧ l = cs L ∧ Anti m L ∧ s = (a : Nat) ∧ a < 2 ^ m) ∨ (r ≠ 0 ∧ ¬ ∃ m L a, n = (m : Nat) ∧ l = cs L ∧ Anti m L ∧ s = (a : Nat) ∧ a < 2 ^ m)) := by
  unfold convex_right
  refine gBind (convex_Check_spec n l hl) fun y hy => gIte (fun h => gSome (.inr ⟨h, ?_⟩)) fun h => gBind (sets_Check_spec n s) fun y1 h1 => gSome ?_
  · rintro ⟨m, L, a, h1, h2, h3, _⟩
    rcases hy with ⟨q, _⟩ | ⟨_, q⟩
    · exact h q
    · exact q ⟨m, L, h1, h2, h3⟩
  · obtain ⟨m, L, rfl, rfl, hf⟩ : ∃ m L, n = (m : Nat) ∧ l = cs L ∧ Anti m L := by
      rcases hy with ⟨_, q⟩ | ⟨q, _⟩
      · exact q
      · omega
    rcases h1 with ⟨rfl, m', a, h2, h3, rfl, h4⟩ | ⟨rfl, h2⟩
    · have : m' = m := by omega
      subst this
      exact .inl ⟨rfl, m', L, a, rfl, rfl, hf, rfl, h4⟩
    · refine .inr ⟨by simp, ?_⟩
      rintro ⟨m', L', a, h3, _, _, rfl, h5⟩
      have : m' = m := by omega
      subst this
      exact h2 ⟨m', a, rfl, hf.m8, rfl, h5⟩
theorem convex_right_ok {m : Nat} {L : List Nat} (h : Anti m L) {a : Nat} (ha : a < 2 ^ m) : convex_right m (cs L) a = some 0 := by
  obtain ⟨r, h1, h2⟩ := convex_right_spec m (cs L) a (by have := h.len; simp; omega)
  rcases h2 with ⟨rfl, _⟩ | ⟨_, hn⟩
  · exact h1
  · exact absurd ⟨m, L, a, rfl, rfl, h, rfl, ha⟩ hn
theorem convex_Hull_ok {m : Nat} {L : List Nat} (h : Anti m L) {a : Nat} (ha : a < 2 ^ m) : convex_Hull m (cs L) a = some (((hullOf m L a : Nat) : Int), 0) := by
  unfold convex_Hull
  rw [convex_right_ok h ha]
  simp [convex_hull_spec h.toFam]

/-- An element is extreme just if it is not in the hull of the others. -/
theorem convex_Extreme_ok {m : Nat} {L : List Nat} (h : Anti m L) {a : Nat} (ha : a < 2 ^ m) : Gets (convex_Extreme m (cs L) a) (fun r => r.2 = 0 ∧ ∃ x : Nat, r.1 = x ∧ ∀ i, x.testBit i = true ↔ a.testBit i = true ∧ (hullOf m L (dif a (2 ^ i))).testBit i = false) := by
  have h256 := pow_le8 h.m8
  unfold convex_Extreme
  refine gBindE (convex_right_ok h ha) (gIte (fun h => absurd rfl h) fun _ => ?_)
  refine gBind (R := fun r : Int => ∃ x : Nat, r = x ∧ ∀ i, x.testBit i = true ↔ a.testBit i = true ∧ (hullOf m L (dif a (2 ^ i))).testBit i = false)
    (gLoop (fun y : Int × Int => ∃ x t : Nat, y.1 = (x : Int) ∧ y.2 = (t : Int) ∧ t < 256 ∧ (∀ i, t.testBit i = true → a.testBit i = true) ∧ ∀ i, x.testBit i = true ↔ a.testBit i = true ∧ t.testBit i = false ∧ (hullOf m L (dif a (2 ^ i))).testBit i = false) (fun y : Int × Int => y.2.toNat) (s0 := ((0 : Int), (a : Int))) ⟨0, a, rfl, rfl, by omega, fun i h => h, fun i => ?_⟩ ?_) ?_
  · simp only [Nat.zero_testBit, Bool.false_eq_true, false_iff]
    rintro ⟨h1, h2, _⟩; rw [h1] at h2; cases h2
  · rintro ⟨_, _⟩ ⟨x, t, rfl, rfl, ht, hta, hx⟩
    simp only
    refine gIte (fun h3 => ?_) fun h3 => gSome ⟨x, rfl, fun i => ?_⟩
    · have hlow := low_spec ht (show t ≠ 0 by omega)
      rw [hlow.neg, hlow.rest, dif_nat]
      have hless := hlow.less
      have key : ∀ i, (dif t (2 ^ lo1 t)).testBit i = true → a.testBit i = true := fun i hi => by
        rw [testBit_dif] at hi; simp only [Bool.and_eq_true] at hi; exact hta i hi.1
      have hta' := hta _ hlow.bit
      refine gChk (by omega) (gBindE (convex_hull_spec h.toFam _) ?_)
      simp only [and_nat, or_nat]
      refine gIte (fun h4 => gChk (by omega) (gSome ⟨⟨_, _, rfl, rfl, by omega, key, fun i => ?_⟩, by simp only [toNat_nat]; omega⟩)) fun h4 => gChk (by omega) (gSome ⟨⟨_, _, rfl, rfl, by omega, key, fun i => ?_⟩, by simp only [toNat_nat]; omega⟩)
      · have h4' := bit_cases _ _ (show hullOf m L (dif a (2 ^ lo1 t)) &&& 2 ^ lo1 t = 0 by omega)
        rw [Nat.testBit_or, Bool.or_eq_true, hx, testBit_dif, testBit_pow, decide_eq_true_eq]
        by_cases e : lo1 t = i
        · subst e; simp [hta', h4']
        · simp [e]
      · have h4' : (hullOf m L (dif a (2 ^ lo1 t))).testBit (lo1 t) = true := by
          cases q : (hullOf m L (dif a (2 ^ lo1 t))).testBit (lo1 t)
          · exfalso; apply h4
            have : hullOf m L (dif a (2 ^ lo1 t)) &&& 2 ^ lo1 t = 0 := by
              rw [disj_iff]; intro j hj
              rw [testBit_pow]
              by_cases e : lo1 t = j
              · subst e; rw [hj] at q; cases q
              · simp [e]
            rw [this]; rfl
          · rfl
        rw [hx, testBit_dif, testBit_pow]
        by_cases e : lo1 t = i
        · subst e; simp [h4']
        · simp [e]
    · have : t = 0 := by omega
      subst this
      rw [hx]; simp
  · intro r hr; exact gSome ⟨rfl, hr⟩

/-- Of two sets that can be taken one grows by an element of the other one. -/
theorem Anti.grow {m : Nat} {L : List Nat} (h : Anti m L) {b : Nat} (hb : b ∈ L) : ∀ (k c : Nat), cnt m c ≤ k → c ∈ L → ¬ Inc c b → ∃ i, c.testBit i = true ∧ b.testBit i = false ∧ b ||| 2 ^ i ∈ L := by
  intro k
  induction k with
  | zero =>
    intro c hc hcL hn
    by_cases hc0 : c = 0
    · subst hc0; exact absurd (fun i hi => by simp at hi) hn
    · obtain ⟨i, hi⟩ := exists_bit hc0
      have := cnt_pos (h.lt c hcL) hi
      omega
  | succ k ih =>
    intro c hc hcL hn
    have hc0 : c ≠ 0 := by rintro rfl; exact hn fun i hi => by simp at hi
    obtain ⟨i, h1, h2⟩ := h.acc c hcL hc0
    by_cases hs : Inc (dif c (2 ^ i)) b
    · refine ⟨i, h1, ?_, ?_⟩
      · cases hbi : b.testBit i
        · rfl
        · exfalso; apply hn
          intro j hj
          by_cases e : i = j
          · subst e; exact hbi
          · exact hs j (dif_self_pow hj e)
      · have e : b ||| 2 ^ i = c ||| b := by
          apply Nat.eq_of_testBit_eq; intro j
          rw [Nat.testBit_or, Nat.testBit_or, testBit_pow]
          by_cases e : i = j
          · subst e; simp [h1]
          · cases hcj : c.testBit j
            · simp [e]
            · rw [hs j (dif_self_pow hcj e)]; simp
        rw [e]; exact h.un c hcL b hb
    · have := cnt_dif (h.lt c hcL) h1
      obtain ⟨j, h3, h4, h5⟩ := ih (dif c (2 ^ i)) (by omega) h2 hs
      rw [testBit_dif] at h3
      simp only [Bool.and_eq_true] at h3
      exact ⟨j, h3.1, h4, h5⟩

section
variable {m : Nat} {L : List Nat} (h : Anti m L)
include h
theorem Anti.hull_inc {s : Nat} (hs : s < 2 ^ m) : Inc s (hullOf m L s) := fun i hi => have _ := h; hullOf_bit.2 ⟨bit_lt hs hi, fun hb => by
  have := (disj_iff _ _).1 (best_disj L s) i hb
  rw [hi] at this; cases this⟩
theorem Anti.best_bitm {s i : Nat} (hb : (best L s).testBit i = true) : i < m := bit_lt (h.lt _ (h.best_mem s)) hb
/-- What is beyond the hull is best. -/
theorem Anti.compl (s : Nat) : dif (2 ^ m - 1) (hullOf m L s) = best L s := by
  apply Nat.eq_of_testBit_eq; intro i
  rw [testBit_dif, Nat.testBit_two_pow_sub_one, Bool.eq_iff_iff]
  simp only [Bool.and_eq_true, decide_eq_true_eq, Bool.not_eq_true']
  constructor
  · rintro ⟨h1, h2⟩
    cases hb : (best L s).testBit i
    · rw [hullOf_bit.2 ⟨h1, by rw [hb]; simp⟩] at h2; cases h2
    · rfl
  · intro hb
    refine ⟨h.best_bitm hb, ?_⟩
    cases hh : (hullOf m L s).testBit i
    · rfl
    · exact absurd hb (hullOf_bit.1 hh).2
theorem Anti.best_hull (s : Nat) : best L (hullOf m L s) = best L s := by
  apply Inc.antisymm
  · -- what is disjoint from the hull is within what is best
    intro i hi
    have h1 := (disj_iff _ _).1 (best_disj L (hullOf m L s)) i hi
    cases hb : (best L s).testBit i
    · rw [hullOf_bit.2 ⟨h.best_bitm hi, by rw [hb]; simp⟩] at h1; cases h1
    · rfl
  · refine best_max (h.best_mem s) ?_
    rw [disj_iff]; intro i hi
    cases hh : (hullOf m L s).testBit i
    · rfl
    · exact absurd hi (hullOf_bit.1 hh).2
theorem Anti.hull_hull (s : Nat) : hullOf m L (hullOf m L s) = hullOf m L s := by
  show dif _ (best L (hullOf m L s)) = _
  rw [h.best_hull]; rfl
/-- What is extreme in a hull lies in the set. -/
theorem Anti.ext_inc {s i : Nat} (hi : (hullOf m L s).testBit i = true) (he : (hullOf m L (dif (hullOf m L s) (2 ^ i))).testBit i = false) (hs : s < 2 ^ m) : s.testBit i = true := by
  cases hsi : s.testBit i
  · exfalso
    have hb : (best L (dif (hullOf m L s) (2 ^ i))).testBit i = true := by
      cases hb : (best L (dif (hullOf m L s) (2 ^ i))).testBit i
      · rw [hullOf_bit.2 ⟨(hullOf_bit.1 hi).1, by rw [hb]; simp⟩] at he; cases he
      · rfl
    refine (hullOf_bit.1 hi).2 ?_
    refine best_max (h.best_mem _) ?_ i hb
    rw [disj_iff]; intro j hj
    cases hsj : s.testBit j
    · rfl
    · exfalso
      have h1 := (disj_iff _ _).1 (best_disj L (dif (hullOf m L s) (2 ^ i))) j hj
      rw [dif_self_pow (h.hull_inc hs j hsj) (by rintro rfl; rw [hsi] at hsj; cases hsj)] at h1
      cases h1
  · rfl
/-- KREIN, MILMAN: what is extreme makes a hull. -/
theorem Anti.milman {s x : Nat} (hx : ∀ i, x.testBit i = true ↔ (hullOf m L s).testBit i = true ∧ (hullOf m L (dif (hullOf m L s) (2 ^ i))).testBit i = false) : hullOf m L x = hullOf m L s := by
  have hB := h.best_mem s
  have hC := h.best_mem x
  have h1 : Inc (best L s) (best L x) := by
    refine best_max hB ?_
    rw [disj_iff]; intro i hi
    cases hxi : x.testBit i
    · rfl
    · exact absurd hi (hullOf_bit.1 ((hx i).1 hxi).1).2
  have h2 : Inc (best L x) (best L s) := by
    rcases Classical.em (Inc (best L x) (best L s)) with q | q
    · exact q
    · exfalso
      obtain ⟨i, h3, h4, h5⟩ := h.grow hB _ _ (Nat.le_refl _) hC q
      have him := h.best_bitm h3
      have hih : (hullOf m L s).testBit i = true := hullOf_bit.2 ⟨him, by rw [h4]; simp⟩
      have hxi : x.testBit i = true := by
        refine (hx i).2 ⟨hih, ?_⟩
        cases hh : (hullOf m L (dif (hullOf m L s) (2 ^ i))).testBit i
        · rfl
        · exfalso
          refine (hullOf_bit.1 hh).2 (best_max h5 ?_ i (by rw [Nat.testBit_or, testBit_pow]; simp))
          rw [disj_iff]; intro j hj
          rw [Nat.testBit_or, testBit_pow, Bool.or_eq_true, decide_eq_true_eq] at hj
          rw [testBit_dif, testBit_pow]
          rcases hj with hj | rfl
          · cases hhj : (hullOf m L s).testBit j
            · rfl
            · exact absurd hj (hullOf_bit.1 hhj).2
          · simp
      have := (disj_iff _ _).1 (best_disj L x) i h3
      rw [hxi] at this; cases this
  show dif _ (best L x) = dif _ (best L s)
  rw [Inc.antisymm h2 h1]
/-- Of two elements beyond a hull one is not in the hull with the other one. -/
theorem Anti.exchange {s i k : Nat} (hi : i < m) (hk : k < m) (hik : k ≠ i) (h1 : (hullOf m L s).testBit i = false) (h2 : (hullOf m L s).testBit k = false) (h3 : (hullOf m L (hullOf m L s ||| 2 ^ i)).testBit k = true) : (hullOf m L (hullOf m L s ||| 2 ^ k)).testBit i = false := by
  have hB := h.best_mem s
  have bi : (best L s).testBit i = true := by
    cases hb : (best L s).testBit i
    · rw [hullOf_bit.2 ⟨hi, by rw [hb]; simp⟩] at h1; cases h1
    · rfl
  have bk : (best L s).testBit k = true := by
    cases hb : (best L s).testBit k
    · rw [hullOf_bit.2 ⟨hk, by rw [hb]; simp⟩] at h2; cases h2
    · rfl
  have hk' := (hullOf_bit.1 h3).2
  -- disjoint from the hull: within what is best
  have within : ∀ t, t ∈ L → t &&& hullOf m L s = 0 → Inc t (best L s) := fun t ht hd => by
    have := best_max ht hd
    rwa [h.best_hull] at this
  have disj : ∀ t j, Inc t (best L s) → t.testBit j = false → t &&& (hullOf m L s ||| 2 ^ j) = 0 := fun t j ht hj => by
    rw [disj_iff]; intro l hl
    rw [Nat.testBit_or, testBit_pow]
    have e1 : (hullOf m L s).testBit l = false := by
      cases hh : (hullOf m L s).testBit l
      · rfl
      · exact absurd (ht l hl) (hullOf_bit.1 hh).2
    have : j ≠ l := by rintro rfl; rw [hl] at hj; cases hj
    simp [e1, this]
  have hB' := h.best_mem (hullOf m L s ||| 2 ^ i)
  have hd' := (disj_iff _ _).1 (best_disj L (hullOf m L s ||| 2 ^ i))
  have hin : Inc (best L (hullOf m L s ||| 2 ^ i)) (best L s) := within _ hB' (by
    rw [disj_iff]; intro l hl
    have := hd' l hl
    rw [Nat.testBit_or] at this; simp only [Bool.or_eq_false_iff] at this; exact this.1)
  have hni : (best L (hullOf m L s ||| 2 ^ i)).testBit i = false := by
    cases hb : (best L (hullOf m L s ||| 2 ^ i)).testBit i
    · rfl
    · have := hd' i hb; rw [Nat.testBit_or, testBit_pow] at this; simp at this
  obtain ⟨j, h4, h5, h6⟩ := h.grow hB' _ _ (Nat.le_refl _) hB (fun q => hk' (q k bk))
  have hj : j = i := by
    rcases Classical.em (j = i) with q | q
    · exact q
    · exfalso
      have hin2 : Inc (best L (hullOf m L s ||| 2 ^ i) ||| 2 ^ j) (best L s) := fun l hl => by
        rw [Nat.testBit_or, testBit_pow, Bool.or_eq_true, decide_eq_true_eq] at hl
        rcases hl with hl | rfl
        · exact hin l hl
        · exact h4
      have := best_max h6 (disj _ i hin2 (by rw [Nat.testBit_or, testBit_pow, hni]; simp [q])) j (by rw [Nat.testBit_or, testBit_pow]; simp)
      rw [h5] at this; cases this
  subst hj
  have hin2 : Inc (best L (hullOf m L s ||| 2 ^ j) ||| 2 ^ j) (best L s) := fun l hl => by
    rw [Nat.testBit_or, testBit_pow, Bool.or_eq_true, decide_eq_true_eq] at hl
    rcases hl with hl | rfl
    · exact hin l hl
    · exact h4
  have hkk : (best L (hullOf m L s ||| 2 ^ j) ||| 2 ^ j).testBit k = false := by
    rw [Nat.testBit_or, testBit_pow, bool_ne hk']; simp; exact fun e => hik e.symm
  have := best_max h6 (disj _ k hin2 hkk) j (by rw [Nat.testBit_or, testBit_pow]; simp)
  cases hh : (hullOf m L (hullOf m L s ||| 2 ^ k)).testBit j
  · rfl
  · exact absurd this (hullOf_bit.1 hh).2
end

theorem rotaref_Within_nat (a b : Nat) : rotaref_Within a b = some (decide (Inc a b)) := by
  unfold rotaref_Within
  rw [or_nat]; congr 1
  rw [Bool.eq_iff_iff, decide_eq_true_eq, decide_eq_true_eq, ← or_eq_iff]; omega
theorem rotaref_All_nat {m : Nat} (h : m ≤ 8) : rotaref_All m = some ((2 ^ m - 1 : Nat) : Int) := by
  have h256 := pow_le8 h
  have hpos : 0 < 2 ^ m := Nat.pow_pos (by omega)
  have e : (((2 ^ m : Nat) : Int) - 1) = ((2 ^ m - 1 : Nat) : Int) := by omega
  unfold rotaref_All
  simp only [toNat_nat, shl_nat', e]
  exact chk_pos (by omega)
theorem rotaref_In_nat (s i : Nat) : rotaref_In s i = some (s.testBit i) := by
  unfold rotaref_In
  rw [chk_pos (by omega)]
  simp only [toNat_nat, shr_nat']
  congr 1
  rw [Nat.testBit_eq_decide_div_mod_eq]
  have : (((s / 2 ^ i : Nat) : Int)).tmod 2 = ((s / 2 ^ i % 2 : Nat) : Int) := tmod_two _
  rw [this]
  rw [Bool.eq_iff_iff, decide_eq_true_eq, decide_eq_true_eq]; omega
theorem anti1 : Anti 1 [0, 1] := by
  refine ⟨⟨by omega, by decide, ?_⟩, by decide, by decide, fun s hs h0 => ?_, by decide⟩
  · intro i j hij hj
    have hj' : j < 2 := hj
    have : i = 0 := by omega
    have : j = 1 := by omega
    subst i j; decide
  · rcases List.mem_cons.1 hs with q | q
    · exact absurd q h0
    · have : s = 1 := by simpa using q
      subst this
      exact ⟨0, rfl, by decide⟩

theorem rotakeep_ConvexJamison_law (n : Int) (l : List Int) (s : Int) (hl : l.length ≤ 9223372036854775807) : rotakeep_ConvexJamison n l s = some true := by
  refine Gets.eq ?_
  unfold rotakeep_ConvexJamison
  have e1 : convex_Hull 1 [0, 1] 1 = some (1, 0) := by
    have := convex_Hull_ok anti1 (a := 1) (by decide)
    have e : hullOf 1 [0, 1] 1 = 1 := by decide
    rw [e] at this; exact this
  refine gBindE e1 (gIte (fun h => by simp at h) fun _ => ?_)
  have hE : ∀ s' : Int, Gets (convex_Hull n l s') (fun r => (r.2 = 0 ∧ ∃ m L a, n = (m : Nat) ∧ l = cs L ∧ Anti m L ∧ s' = (a : Nat) ∧ a < 2 ^ m ∧ r.1 = (hullOf m L a : Nat)) ∨ (r.2 ≠ 0 ∧ r.1 = 0)) := fun s' => by
    unfold convex_Hull
    refine gBind (convex_right_spec n l s' hl) fun y hy => gIte (fun h => gSome (.inr ⟨h, rfl⟩)) fun h => ?_
    rcases hy with ⟨_, m, L, a, rfl, rfl, h1, rfl, h2⟩ | ⟨q, _⟩
    · exact gBindE (convex_hull_spec h1.toFam a) (gSome (.inl ⟨rfl, m, L, a, rfl, rfl, h1, rfl, h2, rfl⟩))
    · exact absurd q h
  refine gBind (hE s) fun y1 h1 => ?_
  rcases h1 with ⟨h1, m, L, a, rfl, rfl, hA, rfl, ha, h2⟩ | ⟨h1, h2⟩
  · rw [h2]
    have hlt := hullOf_lt m L a
    have hm8 := hA.m8
    refine gBind (convex_Extreme_ok hA hlt) fun y2 ⟨h3, x, h4, hx⟩ => gIte (fun h => absurd h1 h) fun _ => ?_
    simp only [h3, h4, ne_eq, not_true_eq_false, not_false_eq_true, if_true, false_or, rotaref_Within_nat, Option.bind_some]
    have i1 : Inc a (hullOf m L a) := hA.hull_inc ha
    have i2 : Inc x a := fun i hi => hA.ext_inc ((hx i).1 hi).1 ((hx i).1 hi).2 ha
    have hxl : x < 2 ^ m := lt_of_bits fun i hi => by
      cases hb : x.testBit i
      · rfl
      · have := bit_lt ha (i2 i hb); omega
    have hmem : dif (2 ^ m - 1) (hullOf m L a) ∈ L := by rw [hA.compl]; exact hA.best_mem a
    simp only [i1, i2, decide_true, not_true_eq_false, not_false_eq_true, if_true, or_false, false_or, rotaref_All_nat hm8, Option.bind_some, dif_nat]
    rw [slices_Contains_spec (cs L) _ (by have := hA.len; simp; omega)]
    simp only [Option.bind_some, cs_mem, hmem, decide_true, not_true_eq_false, if_false]
    rw [convex_Hull_ok hA hxl, convex_Hull_ok hA hlt]
    simp only [Option.bind_some, hA.milman hx, hA.hull_hull, ne_eq, not_true_eq_false, or_false, if_false]
    refine gBind (R := fun z => match z with | .inl _ => True | .inr r => False)
      (gFor m (fun k v => v = (k : Int)) (Nat.zero_le _) rfl ?_) ?_
    · rintro i _ hi rfl
      refine gIte (fun h5 => ?_) fun h5 => gSome trivial
      refine gBind (R := fun z => match z with | .inl _ => True | .inr r => False)
        (gFor i (fun k v => v = (k : Int)) (Nat.zero_le _) rfl ?_) ?_
      · rintro k _ hk rfl
        refine gIte (fun h6 => ?_) fun h6 => gSome trivial
        simp only [rotaref_In_nat, Option.bind_some]
        refine gBindE (a := if (hullOf m L a).testBit i = true then false else (hullOf m L a).testBit k) (by split <;> simp_all) (gIte (fun h7 => gSome ⟨by omega, by simp⟩) fun h7 => ?_)
        have b1 : (hullOf m L a).testBit i = false := bool_ne fun q => h7 (.inl q)
        have b2 : (hullOf m L a).testBit k = false := bool_ne fun q => h7 (.inr (by rw [b1]; simpa using q))
        have him : i < m := by omega
        have hkm : k < m := by omega
        simp only [toNat_nat, shl_nat', or_nat]
        rw [convex_Hull_ok hA (or_lt hlt (pow_lt him)), convex_Hull_ok hA (or_lt hlt (pow_lt hkm))]
        refine gChk (by omega) ?_
        simp only [Option.bind_some]
        refine gChk (by omega) ?_
        simp only [rotaref_In_nat, ne_eq, not_true_eq_false, or_false, not_false_eq_true, if_true, true_and, Option.bind_some, false_or]
        refine gBindE (a := if (hullOf m L (hullOf m L a ||| 2 ^ i)).testBit k = true then (hullOf m L (hullOf m L a ||| 2 ^ k)).testBit i else false) (by split <;> rfl) (gIte (fun h8 => ?_) fun h8 => gSome ⟨by omega, by simp⟩)
        exfalso
        have := hA.exchange him hkm (by omega) b1 b2 h8.1
        rw [if_pos h8.1, this] at h8; simp at h8
      · rintro (u | rr) hz
        · exact gSome ⟨by omega, by simp⟩
        · exact hz.elim
    · rintro (u | rr) hz
      · exact gSome rfl
      · exact hz.elim
  · rw [h2]
    have hx : Gets (convex_Extreme n l 0) (fun _ => True) := by
      have := convex_right_spec n l 0 hl
      obtain ⟨r, h3, h4⟩ := this
      rcases h4 with ⟨rfl, m, L, a, rfl, rfl, hA, h5, h6⟩ | ⟨h4, _⟩
      · exact (convex_Extreme_ok hA (a := 0) (Nat.pow_pos (by omega))).mono fun _ _ => trivial
      · unfold convex_Extreme
        exact gBindE h3 (gIte (fun _ => gSome trivial) fun q => absurd h4 q)
    refine gBind hx fun y2 _ => gIte (fun _ => gSome rfl) fun q => absurd h1 q
end Go.SH
