/-
  Package convex as it computes: what can be taken away, one behind the other; in how many orders. Conditions: lists are no longer than 2^63 - 1.
-/
import Derived.Test.YtobpcecpfojpmaaDoorLS
import Derived.Test.YtobpcecpfojpmaaDoorLM
import Derived.Test.YtobpcecpfojpmaaDoorLSt
import Derived.Test.YtobpcecpfojpmaaDoorSpconvex
import Derived.Test.YtobpcecpfojpmaaDoorSpslices
set_option linter.unusedSimpArgs false
set_option linter.unusedVariables false
namespace Go.SH
open Go Go.AX

theorem slices_Index_spec (l : List Int) (t : Int) (hl : l.length < 2 ^ 60) : Gets (slices_Index_int_int l t) (fun r => (∃ k : Nat, r = k ∧ k < l.length ∧ l.getD k 0 = t ∧ ∀ j, j < k → l.getD j 0 ≠ t) ∨ (r = -1 ∧ t ∉ l)) := by
  unfold slices_Index_int_int
  refine gBind (R := fun z => match z with | .inl _ => ∀ k, k < l.length → l.getD k 0 ≠ t | .inr r => ∃ k : Nat, r = (k : Int) ∧ k < l.length ∧ l.getD k 0 = t ∧ ∀ j, j < k → l.getD j 0 ≠ t)
    (gFor l.length (fun k v => v = (k : Int) ∧ ∀ j, j < k → l.getD j 0 ≠ t) (Nat.zero_le _) ⟨rfl, none_all⟩ ?_) ?_
  · rintro k _ hk ⟨rfl, hb⟩
    refine gIte (fun h1 => gChk (by omega) ?_) fun h1 => gSome fun j hj => hb j (by omega)
    simp only [toNat_nat]
    exact gIte (fun h2 => gSome ⟨k, rfl, by omega, h2.symm, hb⟩) fun h2 => gSome ⟨by omega, by simp, step_all hb fun e => h2 e.symm⟩
  · rintro (u | rr) hz
    · refine gSome (.inr ⟨rfl, fun h => ?_⟩)
      obtain ⟨j, hj, rfl⟩ := List.getElem_of_mem h
      exact hz j hj (by rw [List.getD_eq_getElem?_getD, List.getElem?_eq_getElem hj]; rfl)
    · exact gSome (.inl hz)
theorem slices_Contains_spec (l : List Int) (t : Int) (hl : l.length < 2 ^ 60) : slices_Contains_int_int l t = some (decide (t ∈ l)) := by
  refine Gets.eq ?_
  unfold slices_Contains_int_int
  refine gBind (slices_Index_spec l t hl) fun r hr => gSome ?_
  rcases hr with ⟨k, rfl, h1, h2, _⟩ | ⟨rfl, h⟩
  · have : t ∈ l := by
      rw [← h2, List.getD_eq_getElem?_getD, List.getElem?_eq_getElem h1]; exact List.getElem_mem h1
    simp [this]
  · simp [h]

/-- What can be taken away, one behind the other. -/
structure Anti (m : Nat) (L : List Nat) : Prop extends Fam m L where
  z : 0 ∈ L
  full : 2 ^ m - 1 ∈ L
  acc : ∀ s, s ∈ L → s ≠ 0 → ∃ i, s.testBit i = true ∧ dif s (2 ^ i) ∈ L
  un : ∀ s, s ∈ L → ∀ t, t ∈ L → s ||| t ∈ L

theorem convex_has_spec {l : List Int} (h : Rise l) (hl : l.length < 2 ^ 60) (t : Int) : convex_has l t = some (decide (t ∈ l)) := by
  refine Gets.eq ?_
  unfold convex_has
  refine gBind (BinarySearch_spec l t h hl) fun r hr => gSome ?_
  rw [Bool.eq_iff_iff, hr, decide_eq_true_eq]
theorem Fam.has {m : Nat} {L : List Nat} (h : Fam m L) (a : Nat) : convex_has (cs L) (a : Int) = some (decide (a ∈ L)) := by
  rw [convex_has_spec h.Rise (by have := h.len; simp; omega)]
  congr 1
  rw [Bool.eq_iff_iff]; simp [cs_mem]

/-- Elements of a set one by one till one of a kind is found: those less than the least left are looked at. -/
theorem convex_Check_spec (n : Int) (l : List Int) (hl : l.length ≤ 9223372036854775807) : Gets (convex_Check n l) (fun r => (r = 0 ∧ ∃ m L, n = (m : Nat) ∧ l = cs L ∧ Anti m L) ∨ (r ≠ 0 ∧ ¬ ∃ m L, n = (m : Nat) ∧ l = cs L ∧ Anti m L)) := by
  unfold convex_Check
  refine gBind (sets_Family_spec n l hl) fun y hy => gIte (fun h => gSome (.inr ⟨h, ?_⟩)) fun h => ?_
  · rintro ⟨m, L, h1, h2, h3⟩
    rcases hy with ⟨q, _⟩ | ⟨_, q⟩
    · exact h q
    · exact q ⟨m, L, h1, h2, h3.toFam⟩
  obtain ⟨m, L, rfl, rfl, hf⟩ : ∃ m L, n = (m : Nat) ∧ l = cs L ∧ Fam m L := by
    rcases hy with ⟨_, q⟩ | ⟨q, _⟩
    · exact q
    · omega
  have h8 := hf.m8
  have h256 := pow_le8 h8
  have hlen := hf.len
  have hpos : 0 < 2 ^ m := Nat.pow_pos (by omega)
  have uniq : ∀ {p : Nat → List Nat → Prop}, (∃ m' L', (m : Int) = (m' : Nat) ∧ cs L = cs L' ∧ p m' L') → p m L := by
    rintro p ⟨m', L', h1, h2, h3⟩
    have : m' = m := by omega
    subst this
    rw [← cs_inj h2] at h3; exact h3
  have e0 : ((L.length : Int) - 1).toNat = L.length - 1 := by omega
  simp only [cs_len, e0, toNat_nat, shl_nat', cs_get]
  refine gChk (by omega) (gIte (fun h1 => gSome (.inr ⟨by omega, fun hn => ?_⟩)) fun h1 => ?_)
  · have ha := uniq hn
    have hp : 0 < L.length := List.length_pos_iff.2 (List.ne_nil_of_mem ha.z)
    obtain ⟨k, h2, h3⟩ := mem_getD.1 ha.z
    have h4 := hf.ge k h2
    have : k = 0 := by omega
    subst this
    obtain ⟨k, h5, h6⟩ := mem_getD.1 ha.full
    have h7 : k = L.length - 1 := by
      rcases Nat.lt_or_ge k (L.length - 1) with q | q
      · have h8 := hf.rise k (L.length - 1) q (by omega)
        have h9 := hf.lt _ (mem_getD.2 ⟨L.length - 1, by omega, rfl⟩)
        omega
      · omega
    subst h7
    omega
  · have hp : 0 < L.length := by omega
    have hz : 0 ∈ L := mem_getD.2 ⟨0, hp, by omega⟩
    have hfu : 2 ^ m - 1 ∈ L := mem_getD.2 ⟨L.length - 1, by omega, by omega⟩
    let A : Nat → Prop := fun s => s ≠ 0 → ∃ i, s.testBit i = true ∧ dif s (2 ^ i) ∈ L
    let U : Nat → Nat → Prop := fun s t => s ||| t ∈ L
    refine gBind (R := fun z => match z with | .inl _ => ∀ k, k < L.length → A (L.getD k 0) ∧ ∀ j, j < L.length → U (L.getD k 0) (L.getD j 0) | .inr r => r = 3 ∧ ¬ ∀ k, k < L.length → A (L.getD k 0) ∧ ∀ j, j < L.length → U (L.getD k 0) (L.getD j 0))
      (gFor L.length (fun k v => v = (k : Int) ∧ ∀ i, i < k → A (L.getD i 0) ∧ ∀ j, j < L.length → U (L.getD i 0) (L.getD j 0)) (Nat.zero_le _) ⟨rfl, none_all⟩ ?_) ?_
    · rintro k _ hk ⟨rfl, hb⟩
      refine gIte (fun h2 => gChk (by omega) ?_) fun h2 => gSome fun j hj => hb j (by omega)
      simp only [toNat_nat]
      have hs := hf.lt _ (mem_getD.2 ⟨k, by omega, rfl⟩)
      obtain ⟨s, hs'⟩ : ∃ s, L.getD k 0 = s := ⟨_, rfl⟩
      rw [hs'] at hs
      simp only [hs']
      -- one by one
      refine gBind (R := fun r => r = true ↔ A s) (gLoop (fun x => ∃ t : Nat, x.2 = (t : Int) ∧ t < 256 ∧ (∀ i, t.testBit i = true → s.testBit i = true) ∧ (x.1 = true ↔ s = 0 ∨ ∃ i, s.testBit i = true ∧ t.testBit i = false ∧ dif s (2 ^ i) ∈ L)) (fun x => x.2.toNat) ⟨s, rfl, by omega, fun i h => h, ?_⟩ ?_) ?_
      · rw [decide_eq_true_eq]
        constructor
        · intro q; left; omega
        · rintro (q | ⟨i, q1, q2, _⟩)
          · omega
          · rw [q1] at q2; cases q2
      · rintro ⟨b, _⟩ ⟨t, rfl, ht, hts, hbt⟩
        simp only at hbt ⊢
        refine gIte (fun h3 => ?_) fun h3 => gSome ?_
        · have hlow := low_spec ht (show t ≠ 0 by omega)
          rw [hlow.neg, hlow.rest, dif_nat]
          refine gChk (by omega) (gBindE (a := if b = true then false else decide (dif s (2 ^ lo1 t) ∈ L)) ?_ (gChk (by omega) (gSome ⟨⟨dif t (2 ^ lo1 t), rfl, by have := hlow.less; omega, fun i hi => ?_, ?_⟩, by have := hlow.less; simp only [toNat_nat]; omega⟩)))
          · cases b <;> simp [hf.has]
          · rw [testBit_dif] at hi; simp only [Bool.and_eq_true] at hi; exact hts i hi.1
          · rw [decide_eq_true_eq]
            constructor
            · rintro (h4 | h4)
              · rcases hbt.1 h4 with q | ⟨i, q1, q2, q3⟩
                · exact .inl q
                · exact .inr ⟨i, q1, by rw [testBit_dif, q2]; rfl, q3⟩
              · have hb' : b = false := by cases b <;> simp_all
                subst hb'
                simp only [Bool.false_eq_true, if_false, decide_eq_true_eq] at h4
                exact .inr ⟨lo1 t, hts _ hlow.bit, by rw [testBit_dif, testBit_pow]; simp, h4⟩
            · rintro (h4 | ⟨i, q1, q2, q3⟩)
              · exact .inl (hbt.2 (.inl h4))
              · by_cases e : i = lo1 t
                · subst e
                  cases b
                  · right; simpa using q3
                  · left; rfl
                · left
                  refine hbt.2 (.inr ⟨i, q1, ?_, q3⟩)
                  rw [testBit_dif, testBit_pow] at q2
                  have : decide (lo1 t = i) = false := by simp; exact fun h => e h.symm
                  rw [this] at q2; simpa using q2
        · have : t = 0 := by omega
          subst this
          show b = true ↔ A s
          rw [hbt]
          constructor
          · rintro (q | ⟨i, q1, _, q3⟩) h4
            · exact absurd q h4
            · exact ⟨i, q1, q3⟩
          · intro q
            by_cases h4 : s = 0
            · exact .inl h4
            · obtain ⟨i, q1, q3⟩ := q h4
              exact .inr ⟨i, q1, by simp, q3⟩
      · rintro v3 hv3
        refine gIte (fun h3 => gSome ⟨rfl, fun h4 => ?_⟩) fun h3 => ?_
        · have := (h4 k (by omega)).1
          rw [hs'] at this
          exact h3 (hv3.2 this)
        · have hA : A s := hv3.1 (by cases v3 <;> simp_all)
          refine gBind (R := fun z => match z with | .inl _ => ∀ j, j < L.length → U s (L.getD j 0) | .inr r => r = 3 ∧ ¬ ∀ j, j < L.length → U s (L.getD j 0))
            (gFor L.length (fun k v => v = (k : Int) ∧ ∀ j, j < k → U s (L.getD j 0)) (Nat.zero_le _) ⟨rfl, none_all⟩ ?_) ?_
          · rintro j _ hj ⟨rfl, hbj⟩
            refine gIte (fun h4 => gChk (by omega) ?_) fun h4 => gSome fun i hi => hbj i (by omega)
            simp only [toNat_nat, or_nat, hf.has, Option.bind_some]
            refine gIte (fun h5 => gSome ⟨rfl, fun h6 => h5 (decide_eq_true (h6 j (by omega)))⟩) fun h5 => gSome ⟨by omega, by simp, step_all hbj ?_⟩
            simpa using h5
          · rintro (u | rr) hz2
            · exact gSome ⟨by omega, by simp, step_all hb (by rw [hs']; exact ⟨hA, hz2⟩)⟩
            · refine gSome ⟨hz2.1, fun h4 => hz2.2 fun j hj => ?_⟩
              have := (h4 k (by omega)).2 j hj
              rwa [hs'] at this
    · rintro (u | rr) hz'
      · refine gSome (.inl ⟨rfl, m, L, rfl, rfl, hf, hz, hfu, fun s hs => ?_, fun s hs t ht => ?_⟩)
        · obtain ⟨k, h2, rfl⟩ := mem_getD.1 hs
          exact (hz' k h2).1
        · obtain ⟨k, h2, rfl⟩ := mem_getD.1 hs
          obtain ⟨j, h3, rfl⟩ := mem_getD.1 ht
          exact (hz' k h2).2 j h3
      · refine gSome (.inr ⟨by rw [hz'.1]; simp, fun hn => hz'.2 fun k hk => ?_⟩)
        have ha := uniq hn
        exact ⟨ha.acc _ (mem_getD.2 ⟨k, hk, rfl⟩), fun j hj => ha.un _ (mem_getD.2 ⟨k, hk, rfl⟩) _ (mem_getD.2 ⟨j, hj, rfl⟩)⟩

/-! ### hulls -/
/-- All that can be taken away beside a set. -/
theorem Anti.grow {m : Nat} {L : List Nat} (h : Anti m L) {b : Nat} (hb : b ∈ L) : ∀ (k c : Nat), cnt m c ≤ k → c ∈ L → ¬ Inc c b → ∃ i, c.testBit i = true ∧ b.testBit i = false ∧ b ||| 2 ^ i ∈ L := by
  intro k
  induction k with
  | zero =>
    intro c hc hcL hn
    by_cases hc0 : c = 0
    · subst hc0; exact absurd (fun i hi => by simp at hi) hn
    · obtain ⟨i, hi⟩ := exists_bit hc0
      have := cnt_pos (h.lt c hcL) hi
      omega
  | succ k ih =>
    intro c hc hcL hn
    have hc0 : c ≠ 0 := by rintro rfl; exact hn fun i hi => by simp at hi
    obtain ⟨i, h1, h2⟩ := h.acc c hcL hc0
    by_cases hs : Inc (dif c (2 ^ i)) b
    · refine ⟨i, h1, ?_, ?_⟩
      · cases hbi : b.testBit i
        · rfl
        · exfalso; apply hn
          intro j hj
          by_cases e : i = j
          · subst e; exact hbi
          · exact hs j (dif_self_pow hj e)
      · have e : b ||| 2 ^ i = c ||| b := by
          apply Nat.eq_of_testBit_eq; intro j
          rw [Nat.testBit_or, Nat.testBit_or, testBit_pow]
          by_cases e : i = j
          · subst e; simp [h1]
          · cases hcj : c.testBit j
            · simp [e]
            · rw [hs j (dif_self_pow hcj e)]; simp
        rw [e]; exact h.un c hcL b hb
    · have := cnt_dif (h.lt c hcL) h1
      obtain ⟨j, h3, h4, h5⟩ := ih (dif c (2 ^ i)) (by omega) h2 hs
      rw [testBit_dif] at h3
      simp only [Bool.and_eq_true] at h3
      exact ⟨j, h3.1, h4, h5⟩

theorem dif_lt_self {s i : Nat} (h : s.testBit i = true) : dif s (2 ^ i) < s := by
  have h1 : dif s (2 ^ i) ≤ s := by
    have := Nat.left_le_or (n := dif s (2 ^ i)) (m := 2 ^ i)
    rwa [dif_or h] at this
  rcases Nat.lt_or_eq_of_le h1 with c | c
  · exact c
  · rw [← c, testBit_dif, testBit_pow] at h; simp at h
theorem sum_one (m : Nat) : sumN m (fun _ => 1) = (m : Int) := by
  induction m with
  | zero => rfl
  | succ m ih => simp only [sumN]; rw [ih]; omega
/-- In how many ways a set is made, one element after the other, by sets of the kind. -/
def ways (m : Nat) (P : Nat → Bool) (s : Nat) : Int :=
  if s = 0 then 1 else sumN m fun i => if h : s.testBit i = true ∧ P (dif s (2 ^ i)) = true then ways m P (dif s (2 ^ i)) else 0
termination_by s
decreasing_by exact dif_lt_self h.1
theorem ways_zero (m : Nat) (P : Nat → Bool) : ways m P 0 = 1 := by rw [ways]; rfl
theorem ways_ne {m : Nat} {P : Nat → Bool} {s : Nat} (h : s ≠ 0) : ways m P s = sumN m fun i => if s.testBit i = true ∧ P (dif s (2 ^ i)) = true then ways m P (dif s (2 ^ i)) else 0 := by
  rw [ways, if_neg h]
  refine sumN_congr fun i _ => ?_
  by_cases c : s.testBit i = true ∧ P (dif s (2 ^ i)) = true
  · rw [dif_pos c, if_pos c]
  · rw [dif_neg c, if_neg c]
theorem or_dif_self {s i : Nat} (h : s.testBit i = false) : dif (s ||| 2 ^ i) (2 ^ i) = s := by
  apply Nat.eq_of_testBit_eq
  intro j
  rw [testBit_dif, Nat.testBit_or, testBit_pow]
  by_cases c : i = j
  · subst c; simp [h]
  · simp [c]



theorem setD {l : List Int} {k : Nat} (v : Int) (hk : k < l.length) (j : Nat) : (l.set k v).getD j 0 = if j = k then v else l.getD j 0 := by
  simp only [List.getD_eq_getElem?_getD, List.getElem?_set]
  by_cases c : k = j
  · subst c; simp [hk]
  · rw [if_neg c, if_neg fun q => c q.symm]
theorem replD (n j : Nat) : (List.replicate n (0 : Int)).getD j 0 = 0 := by
  simp only [List.getD_eq_getElem?_getD, List.getElem?_replicate]
  split <;> rfl
theorem Anti.check {m : Nat} {L : List Nat} (h : Anti m L) : convex_Check m (cs L) = some 0 := by
  obtain ⟨r, h1, h2⟩ := convex_Check_spec m (cs L) (by have := h.len; simp; omega)
  rcases h2 with ⟨rfl, _⟩ | ⟨_, hn⟩
  · exact h1
  · exact absurd ⟨m, L, rfl, rfl, h⟩ hn
def mb (L : List Nat) (s : Nat) : Bool := decide (s ∈ L)
theorem ways_bd {m : Nat} (h8 : m ≤ 8) (P : Nat → Bool) : ∀ s, s < 2 ^ m → 0 ≤ ways m P s ∧ ways m P s ≤ 8 ^ cnt m s := by
  intro s
  induction s using Nat.strongRecOn with
  | ind s ih =>
    intro hs
    by_cases h0 : s = 0
    · subst h0; rw [ways_zero, cnt_zero]; exact ⟨by omega, by simp⟩
    · rw [ways_ne h0]
      obtain ⟨i0, hi0⟩ := exists_bit h0
      have hc0 := cnt_dif hs hi0
      obtain ⟨c, hc⟩ : ∃ c, cnt m s = c + 1 := ⟨_, hc0⟩
      have each : ∀ i, i < m → 0 ≤ (if s.testBit i = true ∧ P (dif s (2 ^ i)) = true then ways m P (dif s (2 ^ i)) else 0) ∧ (if s.testBit i = true ∧ P (dif s (2 ^ i)) = true then ways m P (dif s (2 ^ i)) else 0) ≤ 8 ^ c := fun i hi => by
        by_cases q : s.testBit i = true ∧ P (dif s (2 ^ i)) = true
        · rw [if_pos q]
          have hq := ih _ (dif_lt_self q.1) (dif_lt hs)
          have e := cnt_dif hs q.1
          have hq2 : cnt m (dif s (2 ^ i)) = c := by omega
          rwa [hq2] at hq
        · rw [if_neg q]
          exact ⟨Int.le_refl _, Int.le_of_lt (Int.pow_pos (by omega))⟩
      constructor
      · have := sumN_le (n := m) (g := fun _ => 0) fun i hi => (each i hi).1
        rwa [sumN_zero] at this
      · have := sumN_le (n := m) (h := fun _ => 8 ^ c * 1) fun i hi => by rw [Int.mul_one]; exact (each i hi).2
        rw [sumN_mul, sum_one] at this
        refine Int.le_trans this ?_
        rw [hc, Int.pow_succ]
        exact Int.mul_le_mul_of_nonneg_left (by omega) (Int.le_of_lt (Int.pow_pos (by omega)))
theorem ways_small {m : Nat} (h8 : m ≤ 8) (P : Nat → Bool) {s : Nat} (hs : s < 2 ^ m) : 0 ≤ ways m P s ∧ ways m P s ≤ 16777216 := by
  obtain ⟨h1, h2⟩ := ways_bd h8 P s hs
  refine ⟨h1, Int.le_trans h2 ?_⟩
  have hc : cnt m s ≤ 8 := Nat.le_trans (cnt_le m s) h8
  have : (8 : Int) ^ cnt m s ≤ 8 ^ 8 := by
    have := Nat.pow_le_pow_right (n := 8) (by omega) hc
    exact_mod_cast this
  simpa using this

/-- Ways by the elements that are not left. -/
def part (m : Nat) (L : List Nat) (s t : Nat) : Int := sumN m fun i => if s.testBit i = true ∧ t.testBit i = false ∧ mb L (dif s (2 ^ i)) = true then ways m (mb L) (dif s (2 ^ i)) else 0
theorem part_all {m : Nat} {L : List Nat} {s : Nat} (h : s ≠ 0) : part m L s 0 = ways m (mb L) s := by
  rw [ways_ne h]
  exact sumN_congr fun i _ => by simp
theorem part_self (m : Nat) (L : List Nat) (s : Nat) : part m L s s = 0 := by
  refine (sumN_congr fun i _ => ?_).trans (sumN_zero m)
  rw [if_neg]
  rintro ⟨q, q2, _⟩
  rw [q] at q2; cases q2
theorem part_step {m : Nat} {L : List Nat} {s t i : Nat} (hi : i < m) (h1 : s.testBit i = true) (h2 : t.testBit i = true) : part m L s (dif t (2 ^ i)) = part m L s t + if mb L (dif s (2 ^ i)) = true then ways m (mb L) (dif s (2 ^ i)) else 0 := by
  refine sumN_upd hi fun j hj => ?_
  rw [testBit_dif, testBit_pow]
  by_cases c : j = i
  · subst c
    simp [h1, h2]
  · have : ¬ i = j := fun q => c q.symm
    simp [c, this]
theorem part_le {m : Nat} (h8 : m ≤ 8) {L : List Nat} {s t : Nat} (hs : s < 2 ^ m) (h0 : s ≠ 0) : 0 ≤ part m L s t ∧ part m L s t ≤ 16777216 := by
  have nn : ∀ i, i < m → ∀ c : Prop, [Decidable c] → 0 ≤ (if c then ways m (mb L) (dif s (2 ^ i)) else 0) := fun i _ c _ => by
    split
    · exact (ways_small h8 _ (dif_lt hs)).1
    · exact Int.le_refl _
  constructor
  · have := sumN_le (n := m) (g := fun _ => 0) (h := fun i => if s.testBit i = true ∧ t.testBit i = false ∧ mb L (dif s (2 ^ i)) = true then ways m (mb L) (dif s (2 ^ i)) else 0) fun i hi => nn i hi _
    rwa [sumN_zero] at this
  · refine Int.le_trans ?_ (ways_small h8 (mb L) hs).2
    rw [ways_ne h0]
    refine sumN_le fun i hi => ?_
    by_cases q : s.testBit i = true ∧ t.testBit i = false ∧ mb L (dif s (2 ^ i)) = true
    · rw [if_pos q, if_pos ⟨q.1, q.2.2⟩]; exact Int.le_refl _
    · rw [if_neg q]; exact nn i hi _

theorem convex_Orders_ok {m : Nat} {L : List Nat} (h : Anti m L) : convex_Orders m (cs L) = some (ways m (mb L) (2 ^ m - 1), 0) := by
  refine Gets.eq ?_
  have h8 := h.m8
  have h256 := pow_le8 h8
  have hpos : 0 < 2 ^ m := Nat.pow_pos (by omega)
  have hlen := h.len
  unfold convex_Orders
  simp only [toNat_nat, shl_nat', cs_len]
  refine gBindE h.check (gIte (fun q => absurd rfl q) fun _ => gChk (by omega) (gChk (by simp; omega) ?_))
  refine gBind (R := fun a : List Int => a.length = 2 ^ m ∧ ∀ s, s ∈ L → a.getD s 0 = ways m (mb L) s)
    (gFor L.length (fun k (x : List Int × Int) => x.2 = (k : Int) ∧ x.1.length = 2 ^ m ∧ x.1.getD 0 0 = 1 ∧ (∀ j, j < k → x.1.getD (L.getD j 0) 0 = ways m (mb L) (L.getD j 0)) ∧ ∀ s, s < 2 ^ m → s ≠ 0 → (∀ j, j < k → L.getD j 0 ≠ s) → x.1.getD s 0 = 0)
      (Nat.zero_le _) ⟨rfl, by simp, ?_, fun j hj => absurd hj (Nat.not_lt_zero j), fun s hs h0 _ => ?_⟩ ?_) ?_
  · rw [setD _ (by simp; omega), if_pos rfl]
  · rw [setD _ (by simp; omega), if_neg h0, replD]
  · rintro k ⟨a, v⟩ hk ⟨hv, hal, ha0, hdone, hz⟩
    simp only at hv hal ha0 hdone hz ⊢
    subst hv
    simp only [cs_get, toNat_nat]
    refine gIte (fun h1 => gChk (by omega) ?_) fun h1 => gSome ⟨hal, fun s hs => ?_⟩
    · have hk' : k < L.length := by omega
      have hmem : L.getD k 0 ∈ L := mem_getD.2 ⟨k, hk', rfl⟩
      have hs := h.lt _ hmem
      have hrise := h.rise
      have hdone' : ∀ u, u ∈ L → u < L.getD k 0 → a.getD u 0 = ways m (mb L) u := fun u hu hlt => by
        obtain ⟨j, hj, rfl⟩ := mem_getD.1 hu
        refine hdone j ?_
        rcases Nat.lt_trichotomy j k with c | c | c
        · exact c
        · subst c; omega
        · have := hrise k j c hj; omega
      have hne : ∀ j, j < k → L.getD j 0 ≠ L.getD k 0 := fun j hj => by have := hrise j k hj hk'; omega
      generalize hsk : L.getD k 0 = s at *
      refine gBind (R := fun b : List Int => b.length = 2 ^ m ∧ (∀ u, u ≠ s → b.getD u 0 = a.getD u 0) ∧ b.getD s 0 = ways m (mb L) s)
        (gLoop (fun y : List Int × Int => ∃ t : Nat, y.2 = (t : Int) ∧ Inc t s ∧ y.1.length = 2 ^ m ∧ (∀ u, u ≠ s → y.1.getD u 0 = a.getD u 0) ∧ y.1.getD s 0 = if s = 0 then 1 else part m L s t) (fun y => y.2.toNat) ⟨s, rfl, Inc.refl s, hal, fun _ _ => rfl, ?_⟩ ?_) ?_
      · by_cases c : s = 0
        · rw [if_pos c]; subst c; exact ha0
        · rw [if_neg c, part_self]; exact hz s hs c hne
      · rintro ⟨b, w⟩ ⟨t, hw, ht, hbl, hbo, hbs⟩
        simp only at hw hbl hbo hbs ⊢
        subst hw
        refine gIte (fun h2 => ?_) fun h2 => gSome ⟨hbl, hbo, ?_⟩
        · have htm := ht.lt hs
          have hlow := low_spec (show t < 256 by omega) (show t ≠ 0 by omega)
          have hless := hlow.less
          have hbit := ht _ hlow.bit
          have him := bit_lt hs hbit
          have hs0 : s ≠ 0 := fun q => by subst q; simp at hbit
          rw [if_neg hs0] at hbs
          have hstep := part_step (L := L) him hbit hlow.bit
          have hpl := part_le (L := L) (t := t) h8 hs hs0
          have hdl := dif_lt_self hbit
          have hdm : dif s (2 ^ lo1 t) < 2 ^ m := dif_lt hs
          rw [hlow.neg, hlow.rest, dif_nat]
          refine gChk (by omega) (gBindE (h.has _) ?_)
          simp only [toNat_nat]
          refine gIte (fun q => ?_) fun q => gChk (by omega) (gSome ⟨⟨_, rfl, (inc_dif _ _).trans ht, hbl, hbo, ?_⟩, by simp only [toNat_nat]; omega⟩)
          · have hin : dif s (2 ^ lo1 t) ∈ L := of_decide_eq_true q
            have hval : b.getD (dif s (2 ^ lo1 t)) 0 = ways m (mb L) (dif s (2 ^ lo1 t)) := by
              rw [hbo _ (by omega)]; exact hdone' _ hin hdl
            have hws := ways_small h8 (mb L) hdm
            simp only [hval, hbs]
            refine gChk (by omega) (gChk (by omega) (gSome ⟨⟨_, rfl, (inc_dif _ _).trans ht, by simp [hbl], fun u hu => ?_, ?_⟩, by simp only [toNat_nat]; omega⟩))
            · simp only
              rw [setD _ (by omega), if_neg hu]; exact hbo u hu
            · simp only
              rw [setD _ (by omega), if_pos rfl, if_neg hs0, hstep, if_pos (show mb L (dif s (2 ^ lo1 t)) = true from q)]
          · simp only
            rw [if_neg hs0, hstep, if_neg (show ¬ mb L (dif s (2 ^ lo1 t)) = true from q), hbs]; omega
        · have : t = 0 := by omega
          subst this
          rw [hbs]
          by_cases c : s = 0
          · rw [if_pos c]; subst c; rw [ways_zero]
          · rw [if_neg c, part_all c]
      · rintro b ⟨hbl, hbo, hbs⟩
        refine gSome ⟨hk', by simp, hbl, ?_, fun j hj => ?_, fun u hu h0 hno => ?_⟩
        · by_cases c : s = 0
          · subst c; simp only; rw [hbs, ways_zero]
          · simp only; rw [hbo 0 (fun q => c q.symm), ha0]
        · rcases Nat.lt_succ_iff_lt_or_eq.1 hj with c | rfl
          · simp only; rw [hbo _ (hne j c)]; exact hdone j c
          · simp only; rw [hsk]; exact hbs
        · have : u ≠ s := fun q => hno k (Nat.lt_succ_self k) (by rw [hsk, q])
          simp only
          rw [hbo u this]
          exact hz u hu h0 fun j hj => hno j (by omega)
    · obtain ⟨j, hj, rfl⟩ := mem_getD.1 hs
      exact hdone j (by omega)
  · rintro a ⟨hal, ha⟩
    have e1 : ((2 ^ m : Nat) : Int) - 1 = ((2 ^ m - 1 : Nat) : Int) := by omega
    rw [e1, toNat_nat, ha _ h.full]
    exact gChk (by omega) (gSome rfl)

end Go.SH
