/-
  Edges with no end together are free sets of a matroid: a set's touched classes. Conditions: none.
-/
import Derived.Test.YtobpcecpfojpmaaDoorLRm
import Derived.Test.YtobpcecpfojpmaaDoorLSt
import Derived.Test.YtobpcecpfojpmaaDoorLGrd
import Derived.Test.YtobpcecpfojpmaaDoorSpkinds
set_option linter.unusedSimpArgs false
set_option linter.unusedVariables false
namespace Go.SH
open Go Go.AX

/-- The edges with this end. -/
def cls (n : Nat) (f : Nat → Nat) (v : Nat) : Nat := mkset n fun i => decide (f i = v)
theorem cls_bit (n : Nat) (f : Nat → Nat) (v i : Nat) : (cls n f v).testBit i = true ↔ i < n ∧ f i = v := by
  rw [cls, mkset_bit, Bool.and_eq_true, decide_eq_true_eq, decide_eq_true_eq]
theorem cls_lt (n : Nat) (f : Nat → Nat) (v : Nat) : cls n f v < 2 ^ n := mkset_lt n _
/-- The classes that a set touches. -/
def tch (n N : Nat) (f : Nat → Nat) (s : Nat) : Nat := mkset N fun v => (List.range n).any fun i => s.testBit i && decide (f i = v)
theorem tch_bit (n N : Nat) (f : Nat → Nat) (s v : Nat) : (tch n N f s).testBit v = true ↔ v < N ∧ ∃ i, i < n ∧ s.testBit i = true ∧ f i = v := by
  rw [tch, mkset_bit, Bool.and_eq_true, decide_eq_true_eq, List.any_eq_true]
  refine and_congr Iff.rfl ⟨fun ⟨i, h1, h2⟩ => ?_, fun ⟨i, h1, h2, h3⟩ => ⟨i, List.mem_range.2 h1, by rw [h2, h3]; simp⟩⟩
  rw [Bool.and_eq_true, decide_eq_true_eq] at h2
  exact ⟨i, List.mem_range.1 h1, h2⟩
theorem tch_lt (n N : Nat) (f : Nat → Nat) (s : Nat) : tch n N f s < 2 ^ N := mkset_lt N _
def crk (n N : Nat) (f : Nat → Nat) (s : Nat) : Nat := cnt N (tch n N f s)
theorem tch_mono {n N : Nat} {f : Nat → Nat} {s t : Nat} (h : Inc s t) : Inc (tch n N f s) (tch n N f t) := fun v hv => by
  rw [tch_bit] at hv ⊢
  obtain ⟨h1, i, h2, h3, h4⟩ := hv
  exact ⟨h1, i, h2, h i h3, h4⟩
theorem crk_rkF (n N : Nat) (f : Nat → Nat) : RkF (crk n N f) where
  zero := by
    have : tch n N f 0 = 0 := bx fun v => by
      cases q : (tch n N f 0).testBit v with
      | false => simp
      | true =>
        rw [tch_bit] at q
        obtain ⟨_, i, _, h, _⟩ := q
        simp at h
    rw [crk, this, cnt_zero]
  mono := fun s t h => cnt_le_of_inc (tch_mono h)
  step := fun s i => by
    have h1 : Inc (tch n N f (s ||| 2 ^ i)) (tch n N f s ||| 2 ^ f i) := fun v hv => by
      rw [tch_bit] at hv
      obtain ⟨h1, j, h2, h3, h4⟩ := hv
      rw [Nat.testBit_or, Bool.or_eq_true, testBit_pow, decide_eq_true_eq] at h3 ⊢
      rcases h3 with h3 | h3
      · exact .inl ((tch_bit ..).2 ⟨h1, j, h2, h3, h4⟩)
      · subst h3; exact .inr h4
    have h2 := cnt_le_of_inc (m := N) h1
    have h3 : cnt N (tch n N f s ||| 2 ^ f i) ≤ cnt N (tch n N f s) + 1 := by
      have h4 := cnt_or_and N (tch n N f s) (2 ^ f i)
      have h5 : cnt N (2 ^ f i) ≤ 1 := by
        rcases Nat.lt_or_ge (f i) N with c | c
        · have := cnt_add (m := N) (s := 0) c (by simp)
          rw [Nat.zero_or, cnt_zero] at this; omega
        · have : cnt N (2 ^ f i) = cnt N 0 := cnt_congr fun j hj => by rw [testBit_pow, decide_eq_false (by omega)]; simp
          rw [this, cnt_zero]; omega
      omega
    unfold crk; omega
  sub := fun s t => by
    have h1 : Inc (tch n N f (s ||| t)) (tch n N f s ||| tch n N f t) := fun v hv => by
      rw [tch_bit] at hv
      obtain ⟨h1, j, h2, h3, h4⟩ := hv
      rw [Nat.testBit_or, Bool.or_eq_true] at h3 ⊢
      exact h3.imp (fun h => (tch_bit ..).2 ⟨h1, j, h2, h, h4⟩) (fun h => (tch_bit ..).2 ⟨h1, j, h2, h, h4⟩)
    have h2 : Inc (tch n N f (s &&& t)) (tch n N f s &&& tch n N f t) := inc_and (tch_mono (inc_and_l _ _)) (tch_mono (inc_and_r _ _))
    have h3 := cnt_le_of_inc (m := N) h1
    have h4 := cnt_le_of_inc (m := N) h2
    have h5 := cnt_or_and N (tch n N f s) (tch n N f t)
    unfold crk; omega
theorem sumN_eq_of_le {n : Nat} {g h : Nat → Int} (e : ∀ i, i < n → g i ≤ h i) (s : sumN n h ≤ sumN n g) : ∀ i, i < n → g i = h i := by
  induction n with
  | zero => exact none_all
  | succ n ih =>
    simp only [sumN] at s
    have h1 := sumN_le (n := n) (g := g) (h := h) fun i hi => e i (by omega)
    have h2 := e n (by omega)
    exact step_all (ih (fun i hi => e i (by omega)) (by omega)) (by omega)
/-- A set's elements, class by class. -/
theorem cnt_cls {n N : Nat} {f : Nat → Nat} (hf : ∀ i, i < n → f i < N) (s : Nat) : ((cnt n s : Nat) : Int) = sumN N fun v => ((cnt n (cls n f v &&& s) : Nat) : Int) := by
  rw [cnt_sum, sumN_congr (h := fun i => sumN N fun v => if v = f i then (if s.testBit i = true then (1 : Int) else 0) else 0) fun i hi => (sumN_single N (f i) _ (hf i hi)).symm, sumN_swap]
  refine sumN_congr fun v hv => ?_
  rw [cnt_sum]
  refine sumN_congr fun i hi => ?_
  have h1 := cls_bit n f v i
  rw [Nat.testBit_and]
  by_cases c : v = f i
  · rw [if_pos c, h1.2 ⟨hi, c.symm⟩, Bool.true_and]
  · rw [if_neg c]
    cases q : (cls n f v).testBit i with
    | false => simp
    | true => exact absurd (h1.1 q).2.symm c
theorem crk_free {n N : Nat} {f : Nat → Nat} (hf : ∀ i, i < n → f i < N) {s : Nat} (hs : s < 2 ^ n) : crk n N f s = cnt n s ↔ ∀ v, v < N → cnt n (cls n f v &&& s) ≤ 1 := by
  have h1 := cnt_cls hf s
  have h2 : ((crk n N f s : Nat) : Int) = sumN N fun v => if (tch n N f s).testBit v = true then 1 else 0 := cnt_sum _ _
  have h3 : ∀ v, v < N → ((if (tch n N f s).testBit v = true then 1 else 0 : Int)) ≤ ((cnt n (cls n f v &&& s) : Nat) : Int) := fun v hv => by
    split
    · rename_i c
      obtain ⟨_, i, c1, c2, c3⟩ := (tch_bit ..).1 c
      have := cnt_pos (m := n) (c := cls n f v &&& s) (i := i) (and_lt (cls_lt _ _ _)) (by rw [Nat.testBit_and, c2, (cls_bit ..).2 ⟨c1, c3⟩]; rfl)
      omega
    · omega
  refine ⟨fun e v hv => ?_, fun hall => ?_⟩
  · have := sumN_eq_of_le h3 (by rw [← h1, ← h2]; omega) v hv
    split at this <;> omega
  · have : sumN N (fun v => ((if (tch n N f s).testBit v = true then 1 else 0 : Int))) = sumN N fun v => ((cnt n (cls n f v &&& s) : Nat) : Int) := sumN_congr fun v hv => by
      have a1 := h3 v hv
      have a2 := hall v hv
      split
      · rename_i c; rw [if_pos c] at a1; omega
      · rename_i c
        have : cnt n (cls n f v &&& s) = cnt n 0 := cnt_congr fun i hi => by
          rw [Nat.zero_testBit]
          cases q : (cls n f v &&& s).testBit i with
          | false => rfl
          | true =>
            rw [Nat.testBit_and, Bool.and_eq_true] at q
            exact absurd ((tch_bit ..).2 ⟨hv, i, hi, q.2, ((cls_bit ..).1 q.1).2⟩) c
        rw [this, cnt_zero]; rfl
    omega

theorem kinds_size_nat {a : Nat} (h : a < 256) : kinds_size (a : Int) = some ((size a : Nat) : Int) := by
  unfold kinds_size
  rw [chk_pos (by omega)]
  simp [bits_OnesCount, oc_size h]
theorem fam_pw {m : Nat} {K : List Nat} (h8 : m ≤ 8) (h1 : ∀ s, s ∈ K → s < 2 ^ m) (h2 : K.Pairwise (· < ·)) : Fam m K := ⟨h8, h1, fun i j hij hj => by
  rw [List.pairwise_iff_getElem] at h2
  have := h2 i j (by omega) hj hij
  simpa [List.getD_eq_getElem?_getD, List.getElem?_eq_getElem hj, List.getElem?_eq_getElem (show i < K.length by omega)] using this⟩
/-- The greatest sets of which this holds. -/
theorem greatest_spec {n : Nat} (h8 : n ≤ 8) {g : Int → Option Bool} {p : Nat → Prop} (hf : ∀ s : Nat, s < 2 ^ n → Gets (g (s : Int)) (fun b => b = true ↔ p s)) (h0 : p 0) : Gets (kinds_greatest n g) (fun r => ∃ K, r = ((n : Int), cs K) ∧ Fam n K ∧ ∀ s, s ∈ K ↔ s < 2 ^ n ∧ p s ∧ ∀ t, t < 2 ^ n → p t → cnt n t ≤ cnt n s) := by
  have h256 := pow_le8 h8
  have hp2 : 0 < 2 ^ n := Nat.pow_pos (by omega)
  unfold kinds_greatest
  refine gChk (by omega) ?_
  simp only [toNat_nat, shl_nat']
  refine gBind (R := fun l => ∃ K, l = cs K ∧ Fam n K ∧ ∀ s, s ∈ K ↔ s < 2 ^ n ∧ p s ∧ ∀ t, t < 2 ^ n → p t → cnt n t ≤ cnt n s) (gFor (2 ^ n) (fun k (x : List Int × Int × Int) => x.2.2 = (k : Int) ∧ ∃ K : List Nat, x.1 = cs K ∧ K.Pairwise (· < ·) ∧ K.length ≤ k ∧ -1 ≤ x.2.1 ∧ (∀ s, s ∈ K ↔ s < k ∧ p s ∧ ((cnt n s : Nat) : Int) = x.2.1) ∧ (∀ s, s < k → p s → ((cnt n s : Nat) : Int) ≤ x.2.1) ∧ (x.2.1 = -1 ∨ ∃ s, s < k ∧ p s ∧ ((cnt n s : Nat) : Int) = x.2.1)) (Nat.zero_le _) ⟨rfl, [], rfl, List.Pairwise.nil, Nat.le_refl _, Int.le_refl _, fun s => ⟨fun h => (by cases h), fun h => absurd h.1 (by omega)⟩, none_all, .inl rfl⟩ ?_) ?_
  · rintro k ⟨_, most, _⟩ hk ⟨rfl, K, rfl, b1, b2, b3, b4, b5, b6⟩
    simp only at b3 b4 b5 b6
    dsimp only
    refine gIte (fun h1 => ?_) fun h1 => ?_
    rotate_left
    · have e : k = 2 ^ n := by omega
      subst e
      refine gSome ⟨K, rfl, fam_pw h8 (fun s hs => ((b4 s).1 hs).1) b1, fun s => ?_⟩
      rw [b4]
      refine ⟨fun ⟨q1, q2, q3⟩ => ⟨q1, q2, fun t ht hp => by have := b5 t ht hp; omega⟩, fun ⟨q1, q2, q3⟩ => ⟨q1, q2, ?_⟩⟩
      have h1 := b5 s q1 q2
      rcases b6 with b6 | ⟨t, t1, t2, t3⟩
      · omega
      · have := q3 t t1 t2; omega
    have hk' : k < 2 ^ n := by omega
    have hz : kinds_size (k : Int) = some ((cnt n k : Nat) : Int) := by rw [kinds_size_nat (by omega), size_of_lt hk' h8]
    have skip : ¬ (p k ∧ most ≤ ((cnt n k : Nat) : Int)) → (k < 2 ^ n ∧ ((k : Int) + 1 = ((k + 1 : Nat) : Int) ∧ ∃ K' : List Nat, cs K = cs K' ∧ K'.Pairwise (· < ·) ∧ K'.length ≤ k + 1 ∧ -1 ≤ most ∧ (∀ s, s ∈ K' ↔ s < k + 1 ∧ p s ∧ ((cnt n s : Nat) : Int) = most) ∧ (∀ s, s < k + 1 → p s → ((cnt n s : Nat) : Int) ≤ most) ∧ (most = -1 ∨ ∃ s, s < k + 1 ∧ p s ∧ ((cnt n s : Nat) : Int) = most))) := fun hn => by
      refine ⟨hk', by simp, K, rfl, b1, by omega, b3, fun s => ?_, fun s hs hp => ?_, b6.imp id fun ⟨s, s1, s2⟩ => ⟨s, by omega, s2⟩⟩
      · rw [b4]
        refine ⟨fun q => ⟨by omega, q.2⟩, fun q => ⟨?_, q.2⟩⟩
        rcases Nat.lt_succ_iff_lt_or_eq.1 q.1 with c | c
        · exact c
        · subst c; exact absurd ⟨q.2.1, by omega⟩ hn
      · rcases Nat.lt_succ_iff_lt_or_eq.1 hs with c | c
        · exact b5 s c hp
        · subst c
          rcases Int.lt_or_le most ((cnt n s : Nat) : Int) with d | d
          · exact absurd ⟨hp, by omega⟩ hn
          · exact d
    refine gBindE hz (gIte (fun h2 => ?_) fun h2 => gSome (skip fun q => h2 (by omega)))
    refine gBind (hf k hk') fun b hb => gIte (fun h3 => gSome (skip fun q => h3 (hb.2 q.1))) fun h3 => ?_
    have hp : p k := hb.1 (by simpa using h3)
    refine gBindE hz (gIte (fun h4 => ?_) fun h4 => ?_)
    · refine gBindE hz (gChk (by simp) (gSome ⟨hk', by simp, [k], rfl, List.pairwise_singleton _ _, by simp only [List.length_cons, List.length_nil]; omega, (show (-1 : Int) ≤ ((cnt n k : Nat) : Int) by omega), fun s => ?_, fun s hs hps => ?_, .inr ⟨k, by omega, hp, rfl⟩⟩))
      · rw [List.mem_singleton]
        refine ⟨fun e => by subst e; exact ⟨by omega, hp, rfl⟩, fun q => ?_⟩
        rcases Nat.lt_succ_iff_lt_or_eq.1 q.1 with c | c
        · have := b5 s c q.2.1
          have := q.2.2
          simp only at this
          omega
        · exact c
      · show ((cnt n s : Nat) : Int) ≤ ((cnt n k : Nat) : Int)
        rcases Nat.lt_succ_iff_lt_or_eq.1 hs with c | c
        · have := b5 s c hps; omega
        · subst c; omega
    · have he : ((cnt n k : Nat) : Int) = most := by omega
      refine gChk (by rw [List.length_append, cs_len]; simp only [List.length_cons, List.length_nil]; omega) (gSome ⟨hk', by simp, K ++ [k], cs_app _ _, List.pairwise_append.2 ⟨b1, List.pairwise_singleton _ _, fun a ha b hb => ?_⟩, by rw [List.length_append]; simp only [List.length_cons, List.length_nil]; omega, b3, fun s => ?_, fun s hs hps => ?_, .inr ⟨k, by omega, hp, he⟩⟩)
      · rw [List.mem_singleton] at hb; subst hb; exact ((b4 a).1 ha).1
      · rw [List.mem_append, List.mem_singleton, b4]
        constructor
        · rintro (q | q)
          · exact ⟨by omega, q.2⟩
          · subst q; exact ⟨by omega, hp, he⟩
        · intro q
          rcases Nat.lt_succ_iff_lt_or_eq.1 q.1 with c | c
          · exact .inl ⟨c, q.2⟩
          · exact .inr c
      · rcases Nat.lt_succ_iff_lt_or_eq.1 hs with c | c
        · exact b5 s c hps
        · subst c; exact Int.le_of_eq he
  · rintro _ ⟨K, rfl, h1, h2⟩
    exact gSome ⟨K, rfl, h1, h2⟩
end Go.SH
