/-
 Matroids, complexes, shellings, flats, ranks (what the law FlatsHeavy needs of the elder texts). Conditions: none.
-/
import Derived.Test.YtlpikingpnenkaaSp
import Derived.Test.YtlpikingpnenkaaHK
import Derived.Test.YtlpikingpnenkaaSprotakeep
set_option linter.unusedSimpArgs false
set_option linter.unusedVariables false
set_option linter.unusedSectionVars false
namespace Go.SH
open Go Go.AX
/-- How many of the first m elements a set has. -/
def cnt : Nat → Nat → Nat
 | 0, _ => 0
 | m + 1, s => cnt m s + if s.testBit m then 1 else 0
/-- How many elements a set has (of eight). -/
def size (s : Nat) : Nat := cnt 8 s
theorem cnt_le (m s : Nat) : cnt m s ≤ m := by
 induction m with
 | zero => exact Nat.le_refl _
 | succ m ih => simp only [cnt]; split <;> omega
theorem cnt_congr {m s t : Nat} (h : ∀ i, i < m → s.testBit i = t.testBit i) : cnt m s = cnt m t := by
 induction m with
 | zero => rfl
 | succ m ih => simp only [cnt]; rw [ih fun i hi => h i (by omega), h m (by omega)]
theorem cnt_mono {m s t : Nat} (h : ∀ i, i < m → s.testBit i = true → t.testBit i = true) : cnt m s ≤ cnt m t := by
 induction m with
 | zero => exact Nat.le_refl _
 | succ m ih =>
  simp only [cnt]
  have := ih fun i hi => h i (by omega)
  have := h m (by omega)
  split <;> split <;> simp_all <;> omega
theorem cnt_zero (m : Nat) : cnt m 0 = 0 := by
 induction m with
 | zero => rfl
 | succ m ih => simp [cnt, ih]
theorem testBit_pow (i j : Nat) : (2 ^ i).testBit j = decide (i = j) := Nat.testBit_two_pow
theorem cnt_add {m s : Nat} {i : Nat} (hi : i < m) (h : s.testBit i = false) : cnt m (s ||| 2 ^ i) = cnt m s + 1 := by
 induction m with
 | zero => omega
 | succ m ih =>
  simp only [cnt, Nat.testBit_or, testBit_pow]
  rcases Nat.lt_or_ge i m with q | q
  ·rw [ih q]
   have : decide (i = m) = false := by simp; omega
   rw [this, Bool.or_false]; omega
  ·have : i = m := by omega
   subst this
   have e : cnt i (s ||| 2 ^ i) = cnt i s := cnt_congr fun j hj => by
    rw [Nat.testBit_or, testBit_pow]
    have : decide (i = j) = false := by simp; omega
    rw [this, Bool.or_false]
   rw [e, h]; simp
theorem bit_lt {s m i : Nat} (hs : s < 2 ^ m) (h : s.testBit i = true) : i < m := by
 rcases Nat.lt_or_ge i m with q | q
 ·exact q
 ·have := Nat.testBit_lt_two_pow (i := i) (Nat.lt_of_lt_of_le hs (Nat.pow_le_pow_right (by omega) q))
  rw [this] at h; cases h
theorem bit_ge {s m i : Nat} (hs : s < 2 ^ m) (h : m ≤ i) : s.testBit i = false := by
 cases hb : s.testBit i
 ·rfl
 ·have := bit_lt hs hb; omega
theorem lt_of_bits {s m : Nat} (h : ∀ i, m ≤ i → s.testBit i = false) : s < 2 ^ m := by
 rcases Nat.lt_or_ge s (2 ^ m) with q | q
 ·exact q
 ·obtain ⟨i, h1, h2⟩ := Nat.exists_ge_and_testBit_of_ge_two_pow q
  rw [h i h1] at h2; cases h2
theorem cnt_of_lt {m k s : Nat} (hs : s < 2 ^ m) (hk : m ≤ k) : cnt k s = cnt m s := by
  induction k with
  | zero => have : m = 0 := by omega
            subst this; rfl
  | succ k ih =>
    rcases Nat.lt_or_ge m (k + 1) with q | q
    · simp only [cnt]; rw [ih (by omega), bit_ge hs (by omega)]; simp
    · have : m = k + 1 := by omega
      rw [this]
theorem size_of_lt {m s : Nat} (hs : s < 2 ^ m) (hm : m ≤ 8) : size s = cnt m s := cnt_of_lt hs hm
/-- Within. -/
def Inc (s t : Nat) : Prop := ∀ i, s.testBit i = true → t.testBit i = true
theorem sub_iff_and (s t : Nat) : s &&& t = s ↔ Inc s t := by
 constructor
 ·intro h i hs
  have := congrArg (fun x => Nat.testBit x i) h
  simp only [Nat.testBit_and, hs, Bool.true_and] at this
  exact this
 ·intro h
  apply Nat.eq_of_testBit_eq; intro i
  rw [Nat.testBit_and]
  cases hs : s.testBit i
  ·rfl
  ·rw [h i hs]; rfl
theorem sub_iff_dif (s t : Nat) : dif s t = 0 ↔ Inc s t := by
 constructor
 ·intro h i hs
  have := congrArg (fun x => Nat.testBit x i) h
  simp only [testBit_dif, hs, Bool.true_and, Nat.zero_testBit] at this
  cases ht : t.testBit i
  ·rw [ht] at this; cases this
  ·rfl
 ·intro h
  apply Nat.eq_of_testBit_eq; intro i
  rw [testBit_dif, Nat.zero_testBit]
  cases hs : s.testBit i
  ·rfl
  ·rw [h i hs]; rfl
/-- A set grows element by element. -/
theorem set_ind {m : Nat} (p : Nat → Prop) (h0 : p 0) (h : ∀ s i, s < 2 ^ m → i < m → s.testBit i = false → p s → p (s ||| 2 ^ i)) : ∀ s, s < 2 ^ m → p s := by
  have key : ∀ k s, s < 2 ^ k → k ≤ m → p s := by
    intro k
    induction k with
    | zero => intro s hs _; have : s = 0 := by omega
              subst this; exact h0
    | succ k ih =>
      intro s hs hk
      by_cases hb : s.testBit k = true
      · let t := dif s (2 ^ k)
        have ht : t < 2 ^ k := lt_of_bits fun i hi => by
          show (dif s (2 ^ k)).testBit i = false
          rw [testBit_dif, testBit_pow]
          rcases Nat.lt_or_ge i (k + 1) with q | q
          · have : k = i := by omega
            subst this; simp
          · rw [bit_ge hs q]; rfl
        have e : s = t ||| 2 ^ k := by
          apply Nat.eq_of_testBit_eq; intro i
          rw [Nat.testBit_or, testBit_pow]
          show _ = ((dif s (2 ^ k)).testBit i || _)
          rw [testBit_dif, testBit_pow]
          by_cases q : k = i
          · subst q; simp [hb]
          · simp [q]
        rw [e]
        exact h t k (Nat.lt_of_lt_of_le ht (Nat.pow_le_pow_right (by omega) (by omega))) (by omega) (bit_ge ht (Nat.le_refl _)) (ih t ht (by omega))
      · refine ih s (lt_of_bits fun i hi => ?_) (by omega)
        rcases Nat.lt_or_ge i (k + 1) with q | q
        · have : k = i := by omega
          subst this; simpa using hb
        · exact bit_ge hs q
  exact fun s hs => key m s hs (Nat.le_refl _)
theorem dif_self_pow {s i j : Nat} (h : s.testBit j = true) (hij : i ≠ j) : (dif s (2 ^ i)).testBit j = true := by
 rw [testBit_dif, testBit_pow, h]; simp [hij]
theorem dif_or {c i : Nat} (h1 : c.testBit i = true) : dif c (2 ^ i) ||| 2 ^ i = c := by
 apply Nat.eq_of_testBit_eq; intro j
 rw [Nat.testBit_or, testBit_dif, testBit_pow]
 by_cases e : i = j
 ·subst e; simp [h1]
 ·simp [e]
theorem cnt_dif {m c i : Nat} (hc : c < 2 ^ m) (h1 : c.testBit i = true) : cnt m c = cnt m (dif c (2 ^ i)) + 1 := by
 have := cnt_add (m := m) (s := dif c (2 ^ i)) (bit_lt hc h1) (by rw [testBit_dif, testBit_pow]; simp)
 rwa [dif_or h1] at this
theorem cnt_pos {m c i : Nat} (hc : c < 2 ^ m) (h1 : c.testBit i = true) : 0 < cnt m c := by have := cnt_dif hc h1; omega
theorem exists_bit {c : Nat} (h : c ≠ 0) : ∃ i, c.testBit i = true := by
 rcases Classical.em (∃ i, c.testBit i = true) with q | q
 ·exact q
 ·exfalso; apply h
  apply Nat.eq_of_testBit_eq; intro i
  rw [Nat.zero_testBit]
  cases hb : c.testBit i
  ·rfl
  ·exact absurd ⟨i, hb⟩ q
theorem or_eq_iff (s t : Nat) : s ||| t = t ↔ Inc s t := by
 constructor
 ·intro h i hs
  rw [← h, Nat.testBit_or, hs]; rfl
 ·intro h
  apply Nat.eq_of_testBit_eq; intro i
  rw [Nat.testBit_or]
  cases hs : s.testBit i
  ·rfl
  ·rw [h i hs]; rfl
theorem Inc.trans {a b c : Nat} (h : Inc a b) (k : Inc b c) : Inc a c := fun i hi => k i (h i hi)
theorem Inc.antisymm {a b : Nat} (h : Inc a b) (k : Inc b a) : a = b := by
 apply Nat.eq_of_testBit_eq; intro i
 rw [Bool.eq_iff_iff]; exact ⟨h i, k i⟩
instance instIncDec (a b : Nat) : Decidable (Inc a b) := decidable_of_iff (a &&& b = a) (sub_iff_and a b)
theorem step_all {p : Nat → Prop} {k : Nat} (h1 : ∀ j, j < k → p j) (h2 : p k) : ∀ j, j < k + 1 → p j := fun j hj => by
 rcases Nat.lt_or_ge j k with q | q
 ·exact h1 j q
 ·have : j = k := by omega
  subst this; exact h2
theorem none_all {p : Nat → Prop} : ∀ j, j < 0 → p j := fun j hj => absurd hj (Nat.not_lt_zero j)
/-- A list of sets, as numbers of the program's. -/
def cs (L : List Nat) : List Int := L.map Nat.cast
@[simp] theorem cs_len (L : List Nat) : (cs L).length = L.length := by simp [cs]
theorem cs_get (L : List Nat) (k : Nat) : (cs L).getD k 0 = ((L.getD k 0 : Nat) : Int) := by
 simp only [cs, List.getD_eq_getElem?_getD, List.getElem?_map]
 cases L[k]? <;> simp
theorem cs_app (L : List Nat) (a : Nat) : cs L ++ [(a : Int)] = cs (L ++ [a]) := by simp [cs]
theorem cs_inj {L K : List Nat} (h : cs L = cs K) : L = K := by
 have := congrArg (List.map Int.toNat) h
 simpa [cs, Function.comp_def] using this
theorem cs_of {l : List Int} (h : ∀ k, k < l.length → 0 ≤ l.getD k 0) : l = cs (l.map Int.toNat) := by
 apply List.ext_getElem? ; intro i
 simp only [cs, List.map_map, List.getElem?_map]
 cases hi : l[i]? with
 | none => rfl
 | some x =>
  have hlt := (List.getElem?_eq_some_iff.1 hi).1
  have := h i hlt
  rw [List.getD_eq_getElem?_getD, hi] at this
  simp only [Option.getD_some] at this
  simp only [Option.map_some, Function.comp_apply, Option.some.injEq]; omega
theorem cs_mem (L : List Nat) (a : Nat) : (a : Int) ∈ cs L ↔ a ∈ L := by
 simp only [cs, List.mem_map]
 constructor
 ·rintro ⟨b, h, e⟩; have : b = a := by omega
  rwa [← this]
 ·intro h; exact ⟨a, h, rfl⟩
theorem mem_getD {L : List Nat} {a : Nat} : a ∈ L ↔ ∃ k, k < L.length ∧ L.getD k 0 = a := by
 rw [List.mem_iff_getElem?]
 constructor
 ·rintro ⟨i, hi⟩
  exact ⟨i, (List.getElem?_eq_some_iff.1 hi).1, by rw [List.getD_eq_getElem?_getD, hi]; rfl⟩
 ·rintro ⟨k, h1, h2⟩
  refine ⟨k, ?_⟩
  rw [List.getElem?_eq_getElem h1]
  rw [List.getD_eq_getElem?_getD, List.getElem?_eq_getElem h1] at h2
  exact congrArg some h2
/-- It rises. -/
def Rise (l : List Int) : Prop := ∀ i j, i < j → j < l.length → l.getD i 0 < l.getD j 0
/-- A family: sets of m elements, rising. -/
structure Fam (m : Nat) (L : List Nat) : Prop where
 m8 : m ≤ 8
 lt : ∀ s, s ∈ L → s < 2 ^ m
 rise : ∀ i j, i < j → j < L.length → L.getD i 0 < L.getD j 0
theorem Fam.Rise {m : Nat} {L : List Nat} (h : Fam m L) : Rise (cs L) := fun i j hij hj => by
 rw [cs_get, cs_get]; have := h.rise i j hij (by simpa using hj); omega
theorem Fam.ge {m : Nat} {L : List Nat} (h : Fam m L) : ∀ k, k < L.length → k ≤ L.getD k 0 := fun k => by
 induction k with
 | zero => intro _; exact Nat.zero_le _
 | succ k ih => intro hk; have := ih (by omega); have := h.rise k (k + 1) (by omega) hk; omega
theorem Fam.len {m : Nat} {L : List Nat} (h : Fam m L) : L.length ≤ 256 := by
 rcases Nat.eq_zero_or_pos L.length with q | q
 ·omega
 ·have h1 := h.ge (L.length - 1) (by omega)
  have h2 := h.lt _ (mem_getD.2 ⟨L.length - 1, by omega, rfl⟩)
  have := pow_le8 h.m8
  omega
theorem sets_Family_spec (n : Int) (l : List Int) (hl : l.length ≤ 9223372036854775807) : Gets (sets_Family n l) (fun r => (r = 0 ∧ ∃ m L, n = (m : Nat) ∧ l = cs L ∧ Fam m L) ∨ (r = 1 ∧ ¬ ∃ m L, n = (m : Nat) ∧ l = cs L ∧ Fam m L)) := by
 unfold sets_Family
 refine gIte (fun h => gSome (.inr ⟨rfl, ?_⟩)) fun h => ?_
 ·rintro ⟨m, L, rfl, rfl, hf⟩
  have := hf.m8; omega
 ·obtain ⟨m, rfl⟩ := Int.eq_ofNat_of_zero_le (show 0 ≤ n by omega)
  refine gBind (R := fun z => match z with | .inl _ => ∀ k, k < l.length → 0 ≤ l.getD k 0 ∧ l.getD k 0 < ((2 ^ m : Nat) : Int) ∧ (0 < k → l.getD (k - 1) 0 < l.getD k 0) | .inr r => r = 1 ∧ ¬ ∀ k, k < l.length → 0 ≤ l.getD k 0 ∧ l.getD k 0 < ((2 ^ m : Nat) : Int) ∧ (0 < k → l.getD (k - 1) 0 < l.getD k 0))
   (gFor l.length (fun k v => v = (k : Int) ∧ ∀ j, j < k → 0 ≤ l.getD j 0 ∧ l.getD j 0 < ((2 ^ m : Nat) : Int) ∧ (0 < j → l.getD (j - 1) 0 < l.getD j 0)) (Nat.zero_le _) ⟨rfl, none_all⟩ ?_) ?_
  ·rintro k _ hk ⟨rfl, hb⟩
   refine gIte (fun h1 => gChk (by omega) ?_) fun h1 => gSome fun j hj => hb j (by omega)
   have e : ((k : Int) - 1).toNat = k - 1 := by omega
   simp only [toNat_nat, shl_nat', e]
   refine gChk (by omega) (gIte (fun h2 => gSome ⟨rfl, fun h3 => ?_⟩) fun h2 => gSome ⟨by omega, by simp, step_all hb (by omega)⟩)
   have := h3 k (by omega)
   omega
  ·rintro (u | rr) hz
   ·refine gSome (.inl ⟨rfl, m, l.map Int.toNat, rfl, cs_of fun k hk => (hz k hk).1, by omega, fun s hs => ?_, fun i j hij hj => ?_⟩)
    ·obtain ⟨k, h1, h2⟩ := mem_getD.1 hs
     rw [cs_of fun k hk => (hz k hk).1] at hz
     have := (hz k (by simpa using h1)).2.1
     rw [cs_get, h2] at this; omega
    ·have hcs := cs_of fun k hk => (hz k hk).1
     have key : ∀ d i, i + d + 1 < l.length → l.getD i 0 < l.getD (i + d + 1) 0 := fun d => by
      induction d with
      | zero => intro i hi; exact (hz (i + 1) hi).2.2 (by omega)
      | succ d ih => intro i hi; have := ih i (by omega); have := (hz (i + (d + 1) + 1) hi).2.2 (by omega); rw [show i + (d + 1) + 1 - 1 = i + d + 1 by omega] at this; omega
     have := key (j - i - 1) i (by simp at hj; omega)
     rw [show i + (j - i - 1) + 1 = j by omega, hcs, cs_get, cs_get] at this
     omega
   ·refine gSome (.inr ⟨hz.1, ?_⟩)
    rintro ⟨m', L, he, rfl, hf⟩
    have : m' = m := by omega
    subst this
    refine hz.2 fun k hk => ?_
    rw [cs_len] at hk
    rw [cs_get, cs_get]
    have h1 := hf.lt _ (mem_getD.2 ⟨k, hk, rfl⟩)
    refine ⟨by omega, by omega, fun h0 => ?_⟩
    have := hf.rise (k - 1) k (by omega) hk
    omega
theorem isNaN_eq (x : Int) : slices_isNaN_int x = some false := by simp [slices_isNaN_int]
theorem cisNaN_eq (x : Int) : cmp_isNaN_int x = some false := by simp [cmp_isNaN_int]
theorem Less_eq (x y : Int) : cmp_Less_int x y = some (decide (x < y)) := by simp [cmp_Less_int, cisNaN_eq]
theorem BinarySearch_spec (l : List Int) (t : Int) (hr : Rise l) (hl : l.length < 2 ^ 60) : Gets (slices_BinarySearch_int_int l t) (fun r => r.2 = true ↔ t ∈ l) := by
 unfold slices_BinarySearch_int_int
 refine gBind (R := fun i => ∃ k : Nat, i = (k : Int) ∧ k ≤ l.length ∧ (∀ j, j < k → l.getD j 0 < t) ∧ ∀ j, k ≤ j → j < l.length → t ≤ l.getD j 0)
  (gLoop (fun s => ∃ a b : Nat, s.1 = (a : Int) ∧ s.2 = (b : Int) ∧ a ≤ b ∧ b ≤ l.length ∧ (∀ j, j < a → l.getD j 0 < t) ∧ ∀ j, b ≤ j → j < l.length → t ≤ l.getD j 0) (fun s => (s.2 - s.1).toNat) ⟨0, l.length, rfl, rfl, Nat.zero_le _, Nat.le_refl _, none_all, fun j h1 h2 => by omega⟩ ?_) ?_
 ·rintro ⟨_, _⟩ ⟨a, b, rfl, rfl, hab, hb, h1, h2⟩
  simp only
  refine gIte (fun h3 => ?_) fun h3 => gSome ⟨a, rfl, by omega, h1, fun j hj => h2 j (by omega)⟩
  have e : ((a : Int) + b) / 2 ^ 1 = (((a + b) / 2 : Nat) : Int) := by omega
  simp only [e, toNat_nat, Less_eq, Option.bind_some]
  refine gChk (by omega) (gChk (by omega) (gIte (fun h4 => gChk (by omega) (gSome ⟨⟨(a + b) / 2 + 1, b, by simp, rfl, by omega, hb, fun j hj => ?_, h2⟩, by simp only; omega⟩)) fun h4 => gSome ⟨⟨a, (a + b) / 2, rfl, rfl, by omega, by omega, h1, fun j h5 h6 => ?_⟩, by simp only; omega⟩))
  ·have h4 := of_decide_eq_true h4
   rcases Nat.lt_or_ge j ((a + b) / 2) with q | q
   ·have := hr j ((a + b) / 2) q (by omega); omega
   ·have : j = (a + b) / 2 := by omega
    subst this; exact h4
  ·have h4 : ¬ l.getD ((a + b) / 2) 0 < t := fun q => h4 (decide_eq_true q)
   rcases Nat.lt_or_ge ((a + b) / 2) j with q | q
   ·have := hr ((a + b) / 2) j q h6; omega
   ·have : j = (a + b) / 2 := by omega
    subst this; omega
 ·rintro _ ⟨k, rfl, hk, h1, h2⟩
  have get : ∀ j, j < l.length → l.getD j 0 ∈ l := fun j hj => by
   rw [List.getD_eq_getElem?_getD, List.getElem?_eq_getElem hj]; exact List.getElem_mem hj
  refine gChk (by omega) ?_
  simp only [toNat_nat, isNaN_eq]
  refine gBindE (a := false) (by split <;> rfl) (gBindE (a := false) (by split <;> rfl) (gSome ?_))
  simp only [decide_eq_true_eq]
  constructor
  ·rintro ⟨h3, h4⟩
   rcases h4 with h4 | h4
   ·rw [← h4]; exact get k (by omega)
   ·exact absurd h4.1 (by simp)
  ·intro h3
   obtain ⟨j, hj, rfl⟩ := List.getElem_of_mem h3
   have ej : l.getD j 0 = l[j] := by rw [List.getD_eq_getElem?_getD, List.getElem?_eq_getElem hj]; rfl
   have hkj : k ≤ j := by
    rcases Nat.lt_or_ge j k with q | q
    ·have := h1 j q; omega
    ·exact q
   refine ⟨by omega, .inl ?_⟩
   have h5 := h2 k (Nat.le_refl _) (by omega)
   rcases Nat.lt_or_ge k j with q | q
   ·have := hr k j q hj; omega
   ·have : k = j := by omega
    subst this; exact ej
/-- The least element. -/
def lo1 (t : Nat) : Nat := if t.testBit 0 then 0 else if t.testBit 1 then 1 else if t.testBit 2 then 2 else if t.testBit 3 then 3 else if t.testBit 4 then 4 else if t.testBit 5 then 5 else if t.testBit 6 then 6 else 7
theorem low_tab : ∀ t : Fin 256, t.val ≠ 0 → (iand (t.val : Int) (-(t.val : Int)) = ((2 ^ lo1 t.val : Nat) : Int) ∧ iand (t.val : Int) ((t.val : Int) - 1) = ((dif t.val (2 ^ lo1 t.val) : Nat) : Int) ∧ t.val.testBit (lo1 t.val) = true ∧ (∀ j : Fin 8, j.val < lo1 t.val → t.val.testBit j.val = false) ∧ dif t.val (2 ^ lo1 t.val) < t.val) :=
 of_decide_eq_true (by kernel_rfl)
structure IsLow (t i : Nat) : Prop where
 neg : iand (t : Int) (-(t : Int)) = ((2 ^ i : Nat) : Int)
 rest : iand (t : Int) ((t : Int) - 1) = ((dif t (2 ^ i) : Nat) : Int)
 bit : t.testBit i = true
 least : ∀ j, j < i → t.testBit j = false
 less : dif t (2 ^ i) < t
theorem low_spec {t : Nat} (h : t < 256) (h0 : t ≠ 0) : IsLow t (lo1 t) := by
 obtain ⟨h1, h2, h3, h4, h5⟩ := low_tab ⟨t, h⟩ h0
 refine ⟨h1, h2, h3, fun j hj => ?_, h5⟩
 have : lo1 t < 8 := by unfold lo1; repeat' split <;> (try omega)
 exact h4 ⟨j, by omega⟩ hj
theorem oc_tab : ∀ a : Fin 256, oc (a.val : Int) = ((size a.val : Nat) : Int) := of_decide_eq_true (by kernel_rfl)
theorem oc_size {a : Nat} (h : a < 256) : oc (a : Int) = ((size a : Nat) : Int) := oc_tab ⟨a, h⟩
theorem cnt_or_and (m a b : Nat) : cnt m (a ||| b) + cnt m (a &&& b) = cnt m a + cnt m b := by
 induction m with
 | zero => rfl
 | succ m ih =>
  simp only [cnt, Nat.testBit_or, Nat.testBit_and]
  cases a.testBit m <;> cases b.testBit m <;> simp <;> omega
theorem cnt_split (m a b : Nat) : cnt m a = cnt m (a &&& b) + cnt m (dif a b) := by
 induction m with
 | zero => rfl
 | succ m ih =>
  simp only [cnt, testBit_dif, Nat.testBit_and]
  cases a.testBit m <;> cases b.testBit m <;> simp <;> omega
theorem cnt_le_of_inc {m a b : Nat} (h : Inc a b) : cnt m a ≤ cnt m b := cnt_mono fun i _ hi => h i hi
theorem inc_and_l (a b : Nat) : Inc (a &&& b) a := fun i hi => by rw [Nat.testBit_and, Bool.and_eq_true] at hi; exact hi.1
theorem inc_and_r (a b : Nat) : Inc (a &&& b) b := fun i hi => by rw [Nat.testBit_and, Bool.and_eq_true] at hi; exact hi.2
theorem inc_and {a b c : Nat} (h : Inc c a) (k : Inc c b) : Inc c (a &&& b) := fun i hi => by rw [Nat.testBit_and, h i hi, k i hi]; rfl
theorem inc_or_l (a b : Nat) : Inc a (a ||| b) := fun i hi => by rw [Nat.testBit_or, hi]; rfl
theorem inc_or_r (a b : Nat) : Inc b (a ||| b) := fun i hi => by rw [Nat.testBit_or, hi, Bool.or_true]
theorem inc_or {a b c : Nat} (h : Inc a c) (k : Inc b c) : Inc (a ||| b) c := fun i hi => by
 rw [Nat.testBit_or, Bool.or_eq_true] at hi
 rcases hi with hi | hi
 ·exact h i hi
 ·exact k i hi
theorem inc_dif (a b : Nat) : Inc (dif a b) a := fun i hi => by rw [testBit_dif] at hi; simp only [Bool.and_eq_true] at hi; exact hi.1
theorem inc_pow {i s : Nat} (h : s.testBit i = true) : Inc (2 ^ i) s := fun j hj => by
 rw [testBit_pow, decide_eq_true_eq] at hj; subst hj; exact h
theorem Inc.refl (a : Nat) : Inc a a := fun _ h => h
theorem inc_zero (a : Nat) : Inc 0 a := fun i hi => by simp at hi
theorem Inc.lt {a b m : Nat} (h : Inc a b) (hb : b < 2 ^ m) : a < 2 ^ m := lt_of_bits fun i hi => by
 cases q : a.testBit i
 ·rfl
 ·have := bit_lt hb (h i q); omega
theorem not_inc {a b : Nat} (h : ¬ Inc a b) : ∃ i, a.testBit i = true ∧ b.testBit i = false := by
 rcases Classical.em (∃ i, a.testBit i = true ∧ b.testBit i = false) with q | q
 ·exact q
 ·exfalso; apply h; intro i hi
  cases hb : b.testBit i
  ·exact absurd ⟨i, hi, hb⟩ q
  ·rfl
theorem cnt_lt_of {m a b i : Nat} (h : Inc a b) (hb : b < 2 ^ m) (h1 : b.testBit i = true) (h2 : a.testBit i = false) : cnt m a < cnt m b := by
 have h3 := cnt_dif hb h1
 have : Inc a (dif b (2 ^ i)) := fun j hj => dif_self_pow (h j hj) (by rintro rfl; rw [hj] at h2; cases h2)
 have := cnt_le_of_inc (m := m) this
 omega
theorem inc_eq_of_cnt {m a b : Nat} (h : Inc a b) (hb : b < 2 ^ m) (hc : cnt m b ≤ cnt m a) : a = b := by
 refine Inc.antisymm h fun i hi => ?_
 cases q : a.testBit i
 ·have := cnt_lt_of h hb hi q; omega
 ·rfl
/-- A matroid by its bases. -/
structure Mat (m : Nat) (B : List Nat) : Prop extends Fam m B where
 ne : B ≠ []
 eqc : ∀ a, a ∈ B → ∀ b, b ∈ B → cnt m a = cnt m b
 ex : ∀ a, a ∈ B → ∀ b, b ∈ B → ∀ x, a.testBit x = true → b.testBit x = false → ∃ y, b.testBit y = true ∧ a.testBit y = false ∧ dif a (2 ^ x) ||| 2 ^ y ∈ B
/-- Independent: within a basis. -/
def Ind (B : List Nat) (s : Nat) : Prop := ∃ b, b ∈ B ∧ Inc s b
theorem Ind.mono {B : List Nat} {s t : Nat} (h : Ind B t) (hs : Inc s t) : Ind B s := let ⟨b, h1, h2⟩ := h; ⟨b, h1, hs.trans h2⟩
theorem testBit_swap {a x y i : Nat} (hxy : x ≠ y) : (dif a (2 ^ x) ||| 2 ^ y).testBit i = true ↔ (i = y ∨ (a.testBit i = true ∧ i ≠ x)) := by
 rw [Nat.testBit_or, testBit_dif, testBit_pow, testBit_pow]
 simp only [Bool.or_eq_true, Bool.and_eq_true, Bool.not_eq_true', decide_eq_true_eq, decide_eq_false_iff_not]
 constructor
 ·rintro (⟨h1, h2⟩ | rfl)
  ·exact .inr ⟨h1, fun e => h2 e.symm⟩
  ·exact .inl rfl
 ·rintro (rfl | ⟨h1, h2⟩)
  ·exact .inr rfl
  ·exact .inl ⟨h1, fun e => h2 e.symm⟩
section
variable {m : Nat} {B : List Nat} (h : Mat m B)
include h
theorem Mat.ind_lt {s : Nat} (hs : Ind B s) : s < 2 ^ m := let ⟨b, h1, h2⟩ := hs; h2.lt (h.lt b h1)
theorem Mat.aug_aux : ∀ (d : Nat) (b1 b2 I J : Nat), b1 ∈ B → b2 ∈ B → Inc I b1 → Inc J b2 → cnt m (dif b2 (J ||| b1)) ≤ d → cnt m I < cnt m J → ∃ y, J.testBit y = true ∧ I.testBit y = false ∧ Ind B (I ||| 2 ^ y) := by
 intro d
 induction d with
 | zero =>
  intro b1 b2 I J h1 h2 hI hJ hd hc
  have hb1 := h.lt b1 h1
  have hb2 := h.lt b2 h2
  have e0 : Inc b2 (J ||| b1) := by
   rw [← sub_iff_dif]
   rcases Classical.em (dif b2 (J ||| b1) = 0) with q | q
   ·exact q
   ·obtain ⟨i, hi⟩ := exists_bit q
    have := cnt_pos (dif_lt hb2) hi
    omega
  rcases Classical.em (Inc b1 (I ||| b2)) with q | q
  ·rcases Classical.em (∃ y, J.testBit y = true ∧ b1.testBit y = true ∧ I.testBit y = false) with r | r
   ·obtain ⟨y, r1, r2, r3⟩ := r
    exact ⟨y, r1, r3, b1, h1, inc_or hI (inc_pow r2)⟩
   ·exfalso
    have k1 : Inc (dif J I) (dif b2 b1) := fun i hi => by
     rw [testBit_dif] at hi ⊢
     simp only [Bool.and_eq_true, Bool.not_eq_true'] at hi ⊢
     refine ⟨hJ i hi.1, ?_⟩
     cases hb : b1.testBit i
     ·rfl
     ·exact absurd ⟨i, hi.1, hb, hi.2⟩ r
    have k2 : Inc (dif b1 b2) (dif I J) := fun i hi => by
     rw [testBit_dif] at hi ⊢
     simp only [Bool.and_eq_true, Bool.not_eq_true'] at hi ⊢
     have := q i hi.1
     rw [Nat.testBit_or, hi.2, Bool.or_false] at this
     refine ⟨this, ?_⟩
     cases hb : J.testBit i
     ·rfl
     ·rw [hJ i hb] at hi; cases hi.2
    have c1 := cnt_le_of_inc (m := m) k1
    have c2 := cnt_le_of_inc (m := m) k2
    have c3 := h.eqc b1 h1 b2 h2
    have c4 := cnt_split m b1 b2
    have c5 := cnt_split m b2 b1
    rw [Nat.and_comm] at c5
    have c6 := cnt_split m I J
    have c7 := cnt_split m J I
    rw [Nat.and_comm] at c7
    omega
  ·obtain ⟨x, q1, q2⟩ := not_inc q
   rw [Nat.testBit_or, Bool.or_eq_false_iff] at q2
   obtain ⟨y, r1, r2, r3⟩ := h.ex b1 h1 b2 h2 x q1 q2.2
   have hxy : x ≠ y := by rintro rfl; rw [q1] at r2; cases r2
   have hJy : J.testBit y = true := by
    have := e0 y r1
    rw [Nat.testBit_or, r2, Bool.or_false] at this; exact this
   have hIy : I.testBit y = false := by
    cases hb : I.testBit y
    ·rfl
    ·rw [hI y hb] at r2; cases r2
   refine ⟨y, hJy, hIy, _, r3, fun i hi => (testBit_swap hxy).2 ?_⟩
   rw [Nat.testBit_or, testBit_pow, Bool.or_eq_true, decide_eq_true_eq] at hi
   rcases hi with hi | rfl
   ·exact .inr ⟨hI i hi, by rintro rfl; rw [hi] at q2; cases q2.1⟩
   ·exact .inl rfl
 | succ d ih =>
  intro b1 b2 I J h1 h2 hI hJ hd hc
  have hb2 := h.lt b2 h2
  rcases Classical.em (dif b2 (J ||| b1) = 0) with q | q
  ·exact ih b1 b2 I J h1 h2 hI hJ (by rw [q, cnt_zero]; omega) hc
  ·obtain ⟨x, hx⟩ := exists_bit q
   have hx' := hx
   rw [testBit_dif, Nat.testBit_or] at hx'
   simp only [Bool.and_eq_true, Bool.not_eq_true', Bool.or_eq_false_iff] at hx'
   obtain ⟨hx1, hx2, hx3⟩ := hx'
   obtain ⟨y, r1, r2, r3⟩ := h.ex b2 h2 b1 h1 x hx1 hx3
   have hxy : x ≠ y := by rintro rfl; rw [hx1] at r2; cases r2
   refine ih b1 _ I J h1 r3 hI (fun i hi => (testBit_swap hxy).2 (.inr ⟨hJ i hi, by rintro rfl; rw [hi] at hx2; cases hx2⟩)) ?_ hc
   have : Inc (dif (dif b2 (2 ^ x) ||| 2 ^ y) (J ||| b1)) (dif b2 (J ||| b1)) := fun i hi => by
    rw [testBit_dif] at hi ⊢
    simp only [Bool.and_eq_true, Bool.not_eq_true'] at hi ⊢
    refine ⟨?_, hi.2⟩
    rcases (testBit_swap hxy).1 hi.1 with rfl | ⟨q1, _⟩
    ·have := hi.2
     rw [Nat.testBit_or, r1, Bool.or_true] at this; cases this
    ·exact q1
   have := cnt_lt_of this (dif_lt hb2) hx (by
    rw [testBit_dif]
    have : (dif b2 (2 ^ x) ||| 2 ^ y).testBit x = false := by
     cases hb : (dif b2 (2 ^ x) ||| 2 ^ y).testBit x
     ·rfl
     ·rcases (testBit_swap hxy).1 hb with e | ⟨_, e⟩
      ·exact absurd e hxy
      ·exact absurd rfl e
    rw [this]; rfl)
   omega
/-- The smaller of two independent sets grows by an element of the greater one. -/
theorem Mat.aug {I J : Nat} (hI : Ind B I) (hJ : Ind B J) (hc : cnt m I < cnt m J) : ∃ y, J.testBit y = true ∧ I.testBit y = false ∧ Ind B (I ||| 2 ^ y) := by
 obtain ⟨b1, h1, k1⟩ := hI
 obtain ⟨b2, h2, k2⟩ := hJ
 exact h.aug_aux _ b1 b2 I J h1 h2 k1 k2 (Nat.le_refl _) hc
end
/-- How much of a basis lies in a set at most. -/
def rk (m : Nat) (B : List Nat) (s : Nat) : Nat := B.foldl (fun r b => max r (cnt m (s &&& b))) 0
theorem foldl_max_le {B : List Nat} {f : Nat → Nat} {a k : Nat} : B.foldl (fun r b => max r (f b)) a ≤ k ↔ a ≤ k ∧ ∀ b, b ∈ B → f b ≤ k := by
 induction B generalizing a with
 | nil => simp
 | cons c B ih =>
  rw [List.foldl_cons, ih]
  constructor
  ·rintro ⟨h1, h2⟩
   refine ⟨by omega, fun b hb => ?_⟩
   rcases List.mem_cons.1 hb with rfl | hb
   ·omega
   ·exact h2 b hb
  ·rintro ⟨h1, h2⟩
   have := h2 c (by simp)
   exact ⟨by omega, fun b hb => h2 b (by simp [hb])⟩
theorem foldl_max_mem {B : List Nat} {f : Nat → Nat} {a : Nat} : B.foldl (fun r b => max r (f b)) a = a ∨ ∃ b, b ∈ B ∧ B.foldl (fun r b => max r (f b)) a = f b := by
 induction B generalizing a with
 | nil => exact .inl rfl
 | cons c B ih =>
  rw [List.foldl_cons]
  rcases ih (a := max a (f c)) with q | ⟨b, q1, q2⟩
  ·rw [q]
   rcases Nat.le_total a (f c) with r | r
   ·exact .inr ⟨c, by simp, by omega⟩
   ·left; omega
  ·exact .inr ⟨b, by simp [q1], q2⟩
theorem rk_le {m : Nat} {B : List Nat} {s k : Nat} : rk m B s ≤ k ↔ ∀ b, b ∈ B → cnt m (s &&& b) ≤ k := by
 unfold rk; rw [foldl_max_le]; simp
theorem le_rk {m : Nat} {B : List Nat} {s b : Nat} (hb : b ∈ B) : cnt m (s &&& b) ≤ rk m B s := rk_le.1 (Nat.le_refl _) b hb
section
variable {m : Nat} {B : List Nat} (h : Mat m B)
include h
theorem Mat.exists_basis : ∃ b, b ∈ B := by
 cases hB : B with
 | nil => exact absurd hB h.ne
 | cons b r => exact ⟨b, by simp⟩
theorem Mat.rk_mem (s : Nat) : ∃ b, b ∈ B ∧ rk m B s = cnt m (s &&& b) := by
 unfold rk
 rcases foldl_max_mem (B := B) (f := fun b => cnt m (s &&& b)) (a := 0) with q | q
 ·obtain ⟨b, hb⟩ := h.exists_basis
  have := rk_le (m := m) (B := B) (s := s) (k := 0)
  unfold rk at this
  have h0 := (this.1 (by omega)) b hb
  exact ⟨b, hb, by omega⟩
 ·exact q
/-- The rank is the size of a greatest independent set within. -/
theorem Mat.rk_ind {s : Nat} : ∃ I, Ind B I ∧ Inc I s ∧ cnt m I = rk m B s := by
 obtain ⟨b, h1, h2⟩ := h.rk_mem s
 exact ⟨s &&& b, ⟨b, h1, inc_and_r s b⟩, inc_and_l s b, h2.symm⟩
theorem Mat.ind_le {I s : Nat} (hI : Ind B I) (hs : Inc I s) : cnt m I ≤ rk m B s := by
 have _ := h
 obtain ⟨b, h1, h2⟩ := hI
 exact Nat.le_trans (cnt_le_of_inc (inc_and hs h2)) (le_rk h1)
/-- An independent set in another one grows to a greatest one. -/
theorem Mat.extend {u : Nat} : ∀ (k : Nat) (I : Nat), rk m B u - cnt m I ≤ k → Ind B I → Inc I u → ∃ J, Ind B J ∧ Inc I J ∧ Inc J u ∧ cnt m J = rk m B u := by
 intro k
 induction k with
 | zero =>
  intro I hk hI hs
  have := h.ind_le hI hs
  exact ⟨I, hI, Inc.refl I, hs, by omega⟩
 | succ k ih =>
  intro I hk hI hs
  rcases Nat.lt_or_ge (cnt m I) (rk m B u) with q | q
  ·obtain ⟨J, j1, j2, j3⟩ := h.rk_ind (s := u)
   obtain ⟨y, y1, y2, y3⟩ := h.aug hI j1 (by omega)
   have hy : y < m := bit_lt (h.ind_lt j1) y1
   obtain ⟨J', k1, k2, k3, k4⟩ := ih (I ||| 2 ^ y) (by rw [cnt_add hy y2]; omega) y3 (inc_or hs (inc_pow (j2 y y1)))
   exact ⟨J', k1, (inc_or_l _ _).trans k2, k3, k4⟩
  ·have := h.ind_le hI hs
   exact ⟨I, hI, Inc.refl I, hs, by omega⟩
theorem Mat.rk_mono {s t : Nat} (hs : Inc s t) : rk m B s ≤ rk m B t := by
 obtain ⟨I, h1, h2, h3⟩ := h.rk_ind (s := s)
 rw [← h3]; exact h.ind_le h1 (h2.trans hs)
theorem Mat.rk_size (s : Nat) : rk m B s ≤ cnt m s := have _ := h; rk_le.2 fun b _ => cnt_le_of_inc (inc_and_l s b)
theorem Mat.rk_zero : rk m B 0 = 0 := by have := h.rk_size 0; rw [cnt_zero] at this; omega
/-- SUBMODULAR. -/
theorem Mat.rk_sub (s t : Nat) : rk m B (s ||| t) + rk m B (s &&& t) ≤ rk m B s + rk m B t := by
 obtain ⟨I, i1, i2, i3⟩ := h.rk_ind (s := s &&& t)
 obtain ⟨J, j1, j2, j3, j4⟩ := h.extend (u := s ||| t) _ I (Nat.le_refl _) i1 (i2.trans ((inc_and_l s t).trans (inc_or_l s t)))
 have a1 : cnt m (J &&& s) ≤ rk m B s := h.ind_le (j1.mono (inc_and_l J s)) (inc_and_r J s)
 have a2 : cnt m (J &&& t) ≤ rk m B t := h.ind_le (j1.mono (inc_and_l J t)) (inc_and_r J t)
 have a3 := cnt_or_and m (J &&& s) (J &&& t)
 have a4 : cnt m J ≤ cnt m (J &&& s ||| J &&& t) := cnt_le_of_inc fun i hi => by
  have := j3 i hi
  rw [Nat.testBit_or, Bool.or_eq_true] at this
  rw [Nat.testBit_or, Nat.testBit_and, Nat.testBit_and, hi]
  simpa using this
 have a5 : cnt m I ≤ cnt m (J &&& s &&& (J &&& t)) := cnt_le_of_inc fun i hi => by
  have q1 := j2 i hi
  have q2 := i2 i hi
  rw [Nat.testBit_and, Bool.and_eq_true] at q2
  simp only [Nat.testBit_and, q1, q2.1, q2.2]; rfl
 omega
/-- One element more: one more at most. -/
theorem Mat.rk_step (s : Nat) {i : Nat} (hi : i < m) : rk m B (s ||| 2 ^ i) ≤ rk m B s + 1 := by
 have h1 := h.rk_sub s (2 ^ i)
 have h2 := h.rk_size (2 ^ i)
 have h3 : cnt m (2 ^ i) = 1 := by
  have := cnt_add (m := m) (s := 0) hi (by simp)
  rw [Nat.zero_or, cnt_zero] at this; exact this
 omega
end
def mkset : Nat → (Nat → Bool) → Nat
 | 0, _ => 0
 | m + 1, p => mkset m p ||| (if p m = true then 2 ^ m else 0)
theorem mkset_bit (m : Nat) (p : Nat → Bool) (i : Nat) : (mkset m p).testBit i = (decide (i < m) && p i) := by
 induction m with
 | zero => simp [mkset]
 | succ m ih =>
  rw [mkset, Nat.testBit_or, ih]
  rcases Nat.lt_trichotomy i m with c | c | c
  ·have : (if p m = true then 2 ^ m else 0).testBit i = false := by
    split
    ·rw [testBit_pow]; simp; omega
    ·simp
   rw [this, Bool.or_false]
   simp [c, show i < m + 1 by omega]
  ·subst c
   cases h : p i
   ·simp
   ·simp [testBit_pow]
  ·have : (if p m = true then 2 ^ m else 0).testBit i = false := by
    split
    ·rw [testBit_pow]; simp; omega
    ·simp
   rw [this, Bool.or_false]
   simp [show ¬ i < m by omega, show ¬ i < m + 1 by omega]
theorem mkset_lt (m : Nat) (p : Nat → Bool) : mkset m p < 2 ^ m := lt_of_bits fun i hi => by rw [mkset_bit]; simp; omega
theorem axioms_size_nat {a : Nat} (h : a < 256) : axioms_size (a : Int) = some ((size a : Nat) : Int) := by
 unfold axioms_size
 rw [chk_pos (by omega)]
 simp [bits_OnesCount, oc_size h]
/-- Whether each element of a that b has not may be exchanged. -/
def Exch (B : List Nat) (a b : Nat) : Prop := ∀ x, a.testBit x = true → b.testBit x = false → ∃ y, b.testBit y = true ∧ a.testBit y = false ∧ dif a (2 ^ x) ||| 2 ^ y ∈ B
theorem axioms_exchange_spec {m : Nat} {B : List Nat} (hf : Fam m B) (n : Int) {a b : Nat} (ha : a < 256) (hb : b < 256) : Gets (axioms_exchange n (cs B) a b) (fun r => r = true ↔ Exch B a b) := by
  have hlen := hf.len
  unfold axioms_exchange
  simp only [dif_nat]
  have hda : dif a b < 256 := dif_lt (n := 8) ha
  have hdb : dif b a < 256 := dif_lt (n := 8) hb
  refine gBind (R := fun z => match z with | .inl _ => Exch B a b | .inr r => r = false ∧ ¬ Exch B a b)
    (gLoop (fun o => ∃ t : Nat, o = (t : Int) ∧ t < 256 ∧ Inc t (dif a b) ∧ ∀ x, a.testBit x = true → b.testBit x = false → t.testBit x = false → ∃ y, b.testBit y = true ∧ a.testBit y = false ∧ dif a (2 ^ x) ||| 2 ^ y ∈ B) (fun o => o.toNat) (s0 := ((dif a b : Nat) : Int)) ⟨_, rfl, hda, Inc.refl _, fun x h1 h2 h3 => ?_⟩ ?_) ?_
  · rw [testBit_dif, h1, h2] at h3; cases h3
  · rintro _ ⟨t, rfl, ht, hta, hall⟩
    refine gIte (fun h1 => ?_) fun h1 => gSome fun x h2 h3 => hall x h2 h3 (by have : t = 0 := by omega
                                                                               subst this; simp)
    have hlow := low_spec ht (show t ≠ 0 by omega)
    have hbit := hta _ hlow.bit
    rw [testBit_dif] at hbit
    simp only [Bool.and_eq_true, Bool.not_eq_true'] at hbit
    have hless := hlow.less
    refine gChk (by omega) ?_
    simp only [hlow.neg, hlow.rest, dif_nat]
    refine gBind (R := fun r => r = true ↔ ∃ y, b.testBit y = true ∧ a.testBit y = false ∧ dif a (2 ^ lo1 t) ||| 2 ^ y ∈ B)
      (gLoop (fun o => ∃ u : Nat, o.2 = (u : Int) ∧ u < 256 ∧ Inc u (dif b a) ∧ (o.1 = true → ∃ y, b.testBit y = true ∧ a.testBit y = false ∧ dif a (2 ^ lo1 t) ||| 2 ^ y ∈ B) ∧ (o.1 = false → ∀ y, b.testBit y = true → a.testBit y = false → u.testBit y = false → dif a (2 ^ lo1 t) ||| 2 ^ y ∉ B)) (fun o => o.2.toNat) (s0 := (false, ((dif b a : Nat) : Int)))
        ⟨_, rfl, hdb, Inc.refl _, fun h => by simp at h, fun _ y h1 h2 h3 => ?_⟩ ?_) ?_
    · rw [testBit_dif, h1, h2] at h3; cases h3
    · rintro ⟨ok, _⟩ ⟨u, rfl, hu, huc, hok1, hok2⟩
      simp only at hok1 hok2 ⊢
      refine gIte (fun h2 => ?_) fun h2 => gSome ?_
      · have hlow2 := low_spec hu (show u ≠ 0 by omega)
        have hbit2 := huc _ hlow2.bit
        rw [testBit_dif] at hbit2
        simp only [Bool.and_eq_true, Bool.not_eq_true'] at hbit2
        have hless2 := hlow2.less
        refine gChk (by omega) ?_
        simp only [hlow2.neg, hlow2.rest, or_nat]
        refine gBind (BinarySearch_spec (cs B) _ hf.Rise (by simp; omega)) fun y hy => gChk (by omega) (gSome ⟨⟨_, rfl, by omega, (inc_dif _ _).trans huc, fun h3 => ?_, fun h3 y' h4 h5 h6 => ?_⟩, by simp only [toNat_nat]; omega⟩)
        · exact ⟨_, hbit2.1, hbit2.2, (cs_mem _ _).1 (hy.1 h3)⟩
        · rw [testBit_dif, testBit_pow] at h6
          by_cases e : lo1 u = y'
          · subst e
            intro h7
            have := hy.2 ((cs_mem _ _).2 h7)
            simp only at h3
            rw [h3] at this; cases this
          · have : decide (lo1 u = y') = false := by simp [e]
            rw [this] at h6
            refine hok2 ?_ y' h4 h5 (by simpa using h6)
            cases ok
            · rfl
            · exact absurd rfl h2.2
      · show ok = true ↔ _
        constructor
        · exact hok1
        · rintro ⟨y, h3, h4, h5⟩
          cases hk : ok
          · exfalso
            have hu0 : u = 0 := by
              rcases Nat.eq_zero_or_pos u with q | q
              · exact q
              · exact absurd ⟨by omega, by rw [hk]; simp⟩ h2
            subst hu0
            exact hok2 hk y h3 h4 (by simp) h5
          · rfl
    · intro ok hok
      refine gIte (fun h2 => gSome ⟨rfl, fun h3 => h2 (hok.2 (h3 _ hbit.1 hbit.2))⟩) fun h2 => gChk (by omega) (gSome ⟨⟨_, rfl, by omega, (inc_dif _ _).trans hta, fun x h3 h4 h5 => ?_⟩, by simp only [toNat_nat]; omega⟩)
      rw [testBit_dif, testBit_pow] at h5
      by_cases e : lo1 t = x
      · subst e; exact hok.1 (by simpa using h2)
      · have : decide (lo1 t = x) = false := by simp [e]
        rw [this] at h5
        exact hall x h3 h4 (by simpa using h5)
  · rintro (u | rr) hz
    · exact gSome ⟨fun _ => hz, fun _ => rfl⟩
    · exact gSome ⟨fun h => (by rw [hz.1] at h; cases h), fun h => absurd h hz.2⟩
theorem axioms_Check_spec (n : Int) (l : List Int) (hl : l.length ≤ 9223372036854775807) : Gets (axioms_Check n l) (fun r => (r = 0 ∧ ∃ m B, n = (m : Nat) ∧ l = cs B ∧ Mat m B) ∨ (r ≠ 0 ∧ ¬ ∃ m B, n = (m : Nat) ∧ l = cs B ∧ Mat m B)) := by
 unfold axioms_Check
 refine gBind (sets_Family_spec n l hl) fun y hy => gIte (fun h => gSome (.inr ⟨by omega, ?_⟩)) fun h => ?_
 ·rintro ⟨m, B, rfl, rfl, hM⟩
  rcases hy with ⟨q, _⟩ | ⟨_, q⟩
  ·rcases h with h | h
   ·exact h q
   ·have : B.length = 0 := by simpa using h
    exact hM.ne (List.eq_nil_of_length_eq_zero this)
  ·exact q ⟨m, B, rfl, rfl, hM.toFam⟩
 obtain ⟨m, B, rfl, rfl, hf⟩ : ∃ m B, n = (m : Nat) ∧ l = cs B ∧ Fam m B := by
  rcases hy with ⟨_, q⟩ | ⟨q, _⟩
  ·exact q
  ·omega
 have h256 := pow_le8 hf.m8
 have hlen := hf.len
 have uniq : ∀ {p : Nat → List Nat → Prop}, (∃ m' L', (m : Int) = (m' : Nat) ∧ cs B = cs L' ∧ p m' L') → p m B := by
  rintro p ⟨m', L', h1, h2, h3⟩
  have : m' = m := by omega
  subst this
  rw [← cs_inj h2] at h3; exact h3
 have hp : 0 < B.length := by rw [cs_len] at h; omega
 have lt : ∀ k, k < B.length → B.getD k 0 < 2 ^ m := fun k hk => hf.lt _ (mem_getD.2 ⟨k, hk, rfl⟩)
 have sz : ∀ k, k < B.length → size (B.getD k 0) = cnt m (B.getD k 0) := fun k hk => size_of_lt (lt k hk) hf.m8
 simp only [cs_len, cs_get]
 refine gBind (R := fun z => match z with | .inl _ => ∀ k, k < B.length → cnt m (B.getD k 0) = cnt m (B.getD 0 0) | .inr r => r = 1 ∧ ¬ ∀ k, k < B.length → cnt m (B.getD k 0) = cnt m (B.getD 0 0))
  (gFor B.length (fun k v => v = (k : Int) ∧ ∀ j, j < k → cnt m (B.getD j 0) = cnt m (B.getD 0 0)) (Nat.zero_le _) ⟨rfl, none_all⟩ ?_) ?_
 ·rintro k _ hk ⟨rfl, hb⟩
  refine gIte (fun h1 => gChk (by omega) ?_) fun h1 => gSome fun j hj => hb j (by omega)
  have hk' : k < B.length := by omega
  have l1 := lt k hk'
  have l2 := lt 0 hp
  simp only [toNat_nat]
  rw [axioms_size_nat (by omega), axioms_size_nat (by omega)]
  simp only [Option.bind_some]
  refine gChk (by omega) (gIte (fun h2 => gSome ⟨rfl, fun h3 => h2 ?_⟩) fun h2 => gSome ⟨hk', by simp, step_all hb ?_⟩)
  ·have := h3 k hk'
   rw [← sz k hk', ← sz 0 hp] at this; omega
  ·rw [← sz k hk', ← sz 0 hp]; omega
 ·rintro (u | rr) hz
  ·refine gBind (R := fun z => match z with | .inl _ => ∀ k, k < B.length → ∀ j, j < B.length → Exch B (B.getD k 0) (B.getD j 0) | .inr r => r = 3 ∧ ¬ ∀ k, k < B.length → ∀ j, j < B.length → Exch B (B.getD k 0) (B.getD j 0))
    (gFor B.length (fun k v => v = (k : Int) ∧ ∀ i, i < k → ∀ j, j < B.length → Exch B (B.getD i 0) (B.getD j 0)) (Nat.zero_le _) ⟨rfl, none_all⟩ ?_) ?_
   ·rintro k _ hk ⟨rfl, hb⟩
    refine gIte (fun h1 => gChk (by omega) ?_) fun h1 => gSome fun j hj => hb j (by omega)
    have hk' : k < B.length := by omega
    simp only [toNat_nat]
    refine gBind (R := fun z => match z with | .inl _ => ∀ j, j < B.length → Exch B (B.getD k 0) (B.getD j 0) | .inr r => r = 3 ∧ ¬ ∀ j, j < B.length → Exch B (B.getD k 0) (B.getD j 0))
     (gFor B.length (fun j v => v = (j : Int) ∧ ∀ i, i < j → Exch B (B.getD k 0) (B.getD i 0)) (Nat.zero_le _) ⟨rfl, none_all⟩ ?_) ?_
    ·rintro j _ hj ⟨rfl, hbj⟩
     refine gIte (fun h2 => gChk (by omega) ?_) fun h2 => gSome fun i hi => hbj i (by omega)
     have hj' : j < B.length := by omega
     have l1 := lt k hk'
     have l2 := lt j hj'
     simp only [toNat_nat]
     refine gBind (axioms_exchange_spec hf m (by omega) (by omega)) fun r hr => gIte (fun h3 => gSome ⟨rfl, fun h4 => h3 (hr.2 (h4 j hj'))⟩) fun h3 => gSome ⟨hj', by simp, step_all hbj (hr.1 (by simpa using h3))⟩
    ·rintro (u | rr) hz2
     ·exact gSome ⟨hk', by simp, step_all hb hz2⟩
     ·exact gSome ⟨hz2.1, fun h4 => hz2.2 (h4 k hk')⟩
   ·rintro (u | rr) hz2
    ·refine gSome (.inl ⟨rfl, m, B, rfl, rfl, hf, ?_, fun a ha b hb => ?_, fun a ha b hb x h1 h2 => ?_⟩)
     ·intro e; rw [e] at hp; simp at hp
     ·obtain ⟨i, h1, rfl⟩ := mem_getD.1 ha
      obtain ⟨j, h2, rfl⟩ := mem_getD.1 hb
      rw [hz i h1, hz j h2]
     ·obtain ⟨i, h3, rfl⟩ := mem_getD.1 ha
      obtain ⟨j, h4, rfl⟩ := mem_getD.1 hb
      exact hz2 i h3 j h4 x h1 h2
    ·refine gSome (.inr ⟨by rw [hz2.1]; simp, fun hn => hz2.2 fun k hk j hj => ?_⟩)
     exact (uniq hn).ex _ (mem_getD.2 ⟨k, hk, rfl⟩) _ (mem_getD.2 ⟨j, hj, rfl⟩)
  ·refine gSome (.inr ⟨by rw [hz.1]; simp, fun hn => hz.2 fun k hk => ?_⟩)
   exact (uniq hn).eqc _ (mem_getD.2 ⟨k, hk, rfl⟩) _ (mem_getD.2 ⟨0, hp, rfl⟩)
theorem Mat.check {m : Nat} {B : List Nat} (h : Mat m B) : axioms_Check m (cs B) = some 0 := by
 obtain ⟨r, h1, h2⟩ := axioms_Check_spec m (cs B) (by have := h.len; simp; omega)
 rcases h2 with ⟨rfl, _⟩ | ⟨_, hn⟩
 ·exact h1
 ·exact absurd ⟨m, B, rfl, rfl, h⟩ hn
/-- The ranks of all sets, as a list. -/
def rkL (m : Nat) (B : List Nat) : List Nat := (List.range (2 ^ m)).map (rk m B)
theorem rkL_len (m : Nat) (B : List Nat) : (rkL m B).length = 2 ^ m := by simp [rkL]
theorem rkL_get (m : Nat) (B : List Nat) {s : Nat} (hs : s < 2 ^ m) : (rkL m B).getD s 0 = rk m B s := by
 simp [rkL, List.getD_eq_getElem?_getD, hs]
theorem rk_take_succ (m : Nat) (B : List Nat) (s : Nat) {k : Nat} (hk : k < B.length) : rk m (B.take (k + 1)) s = max (rk m (B.take k) s) (cnt m (s &&& B.getD k 0)) := by
 unfold rk
 rw [List.take_succ_eq_append_getElem hk, List.foldl_append, List.getD_eq_getElem?_getD, List.getElem?_eq_getElem hk]; rfl
theorem set_getD {l : List Int} {k : Nat} (v : Int) (hk : k < l.length) (j : Nat) : (l.set k v).getD j 0 = if j = k then v else l.getD j 0 := by
 simp only [List.getD_eq_getElem?_getD, List.getElem?_set]
 by_cases e : k = j
 ·subst e; simp [hk]
 ·rw [if_neg e, if_neg (fun e' => e e'.symm)]
theorem list_ext_getD {l k : List Int} (h : l.length = k.length) (e : ∀ i, i < l.length → l.getD i 0 = k.getD i 0) : l = k := by
 apply List.ext_getElem h
 intro i h1 h2
 have := e i h1
 simpa [List.getD_eq_getElem?_getD, List.getElem?_eq_getElem h1, List.getElem?_eq_getElem h2] using this
theorem filter_fam {m : Nat} (h8 : m ≤ 8) (p : Nat → Bool) : Fam m ((List.range (2 ^ m)).filter p) := by
  refine ⟨h8, fun s hs => by simpa using (List.mem_filter.1 hs).1, fun i j hij hj => ?_⟩
  have hp : ((List.range (2 ^ m)).filter p).Pairwise (· < ·) := List.Pairwise.filter _ List.pairwise_lt_range
  have hi := Nat.lt_trans hij hj
  have := List.pairwise_iff_getElem.1 hp i j hi hj hij
  rw [List.getD_eq_getElem?_getD, List.getD_eq_getElem?_getD, List.getElem?_eq_getElem hj, List.getElem?_eq_getElem hi]
  exact this
/-- A rank function on sets. -/
structure RkF (r : Nat → Nat) : Prop where
 zero : r 0 = 0
 mono : ∀ s t, Inc s t → r s ≤ r t
 step : ∀ s i, r (s ||| 2 ^ i) ≤ r s + 1
 sub : ∀ s t, r (s ||| t) + r (s &&& t) ≤ r s + r t
theorem bx {a b : Nat} (h : ∀ j, a.testBit j = b.testBit j) : a = b := Nat.eq_of_testBit_eq h
theorem RkF.add {r : Nat → Nat} (h : RkF r) (a : Nat) : ∀ b, b < 2 ^ 8 → r (a ||| b) ≤ r a + cnt 8 b := by
 refine set_ind (m := 8) _ ?_ ?_
 ·simp
 ·intro s i hs hi hb ih
  have e : a ||| (s ||| 2 ^ i) = (a ||| s) ||| 2 ^ i := (Nat.or_assoc _ _ _).symm
  rw [e, cnt_add hi hb]
  have := h.step (a ||| s) i
  omega
theorem RkF.le {r : Nat → Nat} (h : RkF r) {b : Nat} (hb : b < 2 ^ 8) : r b ≤ cnt 8 b := by
 have := h.add 0 b hb
 rw [Nat.zero_or, h.zero] at this
 omega
theorem Mat.rkF {m : Nat} {B : List Nat} (h : Mat m B) : RkF (rk m B) where
 zero := h.rk_zero
 mono := fun s t hs => h.rk_mono hs
 step := fun s i => by
  rcases Nat.lt_or_ge i m with c | c
  ·exact h.rk_step s c
  ·refine rk_le.2 fun b hb => ?_
   have e : cnt m ((s ||| 2 ^ i) &&& b) = cnt m (s &&& b) := cnt_congr fun j hj => by
    rw [Nat.testBit_and, Nat.testBit_or, Nat.testBit_and, testBit_pow, decide_eq_false (by omega), Bool.or_false]
   rw [e]
   have := le_rk (m := m) (s := s) hb
   omega
 sub := h.rk_sub
def cpl (m s : Nat) : Nat := dif (2 ^ m - 1) s
theorem full_bit (m i : Nat) : (2 ^ m - 1).testBit i = decide (i < m) := Nat.testBit_two_pow_sub_one m i
theorem cpl_bit (m s i : Nat) : (cpl m s).testBit i = (decide (i < m) && !s.testBit i) := by rw [cpl, testBit_dif, full_bit]
theorem cpl_cnt {m s : Nat} : cnt m (cpl m s) + cnt m s = m := by
 have h1 := cnt_split m (2 ^ m - 1) s
 have h2 : cnt m (2 ^ m - 1 &&& s) = cnt m s := cnt_congr fun i hi => by rw [Nat.testBit_and, full_bit]; simp [hi]
 have h3 : cnt m (2 ^ m - 1) = m := by
  have : ∀ k, k ≤ m → cnt k (2 ^ m - 1) = k := fun k => by
   induction k with
   | zero => intro _; rfl
   | succ k ih => intro hk; simp only [cnt]; rw [ih (by omega), full_bit]; simp [show k < m by omega]
  exact this m (Nat.le_refl _)
 unfold cpl
 omega
theorem axioms_ranks_spec {m : Nat} {B : List Nat} (hf : Fam m B) : axioms_ranks m (cs B) = some (cs (rkL m B)) := by
 refine Gets.eq ?_
 have h256 := pow_le8 hf.m8
 have h8 := hf.m8
 have hlen := hf.len
 have hpos : 0 < 2 ^ m := Nat.pow_pos (by omega)
 unfold axioms_ranks
 simp only [toNat_nat, shl_nat', List.length_replicate, cs_len, cs_get]
 refine gChk (by omega) (gBind (R := fun o => o = cs (rkL m B)) (gFor (2 ^ m) (fun k x => x.2 = (k : Int) ∧ x.1.length = 2 ^ m ∧ (∀ j, j < k → x.1.getD j 0 = ((rk m B j : Nat) : Int)) ∧ ∀ j, k ≤ j → j < 2 ^ m → x.1.getD j 0 = 0) (Nat.zero_le _) ⟨rfl, by simp, none_all, fun j _ hj => ?_⟩ ?_) fun o ho => gSome ho)
 ·simp [List.getD_eq_getElem?_getD, List.getElem?_replicate, hj]
 ·rintro k ⟨x, _⟩ hk ⟨rfl, hxl, hlo, hhi⟩
  simp only at hxl hlo hhi ⊢
  refine gIte (fun h1 => ?_) fun h1 => gSome ?_
  ·have hk' : k < 2 ^ m := by omega
   refine gBind (R := fun o => o.length = 2 ^ m ∧ (∀ j, j ≠ k → o.getD j 0 = x.getD j 0) ∧ o.getD k 0 = ((rk m B k : Nat) : Int))
    (gFor B.length (fun i y => y.2 = (i : Int) ∧ y.1.length = 2 ^ m ∧ (∀ j, j ≠ k → y.1.getD j 0 = x.getD j 0) ∧ y.1.getD k 0 = ((rk m (B.take i) k : Nat) : Int)) (Nat.zero_le _) ⟨rfl, hxl, fun _ _ => rfl, ?_⟩ ?_) ?_
   ·simp only; rw [hhi k (Nat.le_refl _) hk']; rfl
   ·rintro i ⟨y, _⟩ hi ⟨rfl, hyl, hne, hkk⟩
    simp only at hyl hne hkk ⊢
    refine gIte (fun h2 => gChk (by omega) (gChk (by omega) ?_)) fun h2 => gSome ⟨hyl, hne, by rw [hkk, List.take_of_length_le (by omega)]⟩
    have hi' : i < B.length := by omega
    have hlt := hf.lt _ (mem_getD.2 ⟨i, hi', rfl⟩)
    simp only [toNat_nat, and_nat]
    rw [axioms_size_nat (by have := and_lt (b := B.getD i 0) hk'; omega)]
    simp only [Option.bind_some]
    refine gChk (by omega) (gSome ⟨hi', by simp, by simpa using hyl, fun j hj => ?_, ?_⟩)
    ·rw [set_getD _ (by omega), if_neg hj]; exact hne j hj
    ·rw [set_getD _ (by omega), if_pos rfl, hkk, rk_take_succ m B k hi', size_of_lt (and_lt hk') h8]
     omega
   ·rintro o ⟨h2, h3, h4⟩
    refine gSome ⟨hk', by simp, h2, step_all (fun j hj => by rw [h3 j (by omega)]; exact hlo j hj) h4, fun j hj hj' => by rw [h3 j (by omega)]; exact hhi j (by omega) hj'⟩
  ·have : k = 2 ^ m := by omega
   subst this
   refine list_ext_getD (by rw [hxl, cs_len, rkL_len]) fun i hi => ?_
   rw [hlo i (by omega), cs_get, rkL_get m B (by omega)]
theorem axioms_Ranks_ok {m : Nat} {B : List Nat} (h : Mat m B) : axioms_Ranks m (cs B) = some (cs (rkL m B), 0) := by
 unfold axioms_Ranks
 rw [h.check]
 simp [axioms_ranks_spec h.toFam]
section
variable {m : Nat} {B : List Nat} (h : Mat m B)
include h
theorem Mat.rk_top {S : Nat} (hS : S < 2 ^ m) : rk m B S ≤ rk m B (2 ^ m - 1) := h.rk_mono fun i hi => by rw [full_bit]; simpa using bit_lt hS hi
end
def uniL (m k : Nat) : List Nat := (List.range (2 ^ m)).filter fun s => cnt m s = k
theorem mem_uniL {m k s : Nat} : s ∈ uniL m k ↔ s < 2 ^ m ∧ cnt m s = k := by simp [uniL]
theorem uniL_fam {m : Nat} (h8 : m ≤ 8) (k : Nat) : Fam m (uniL m k) := filter_fam h8 _
theorem uni_up {m k s : Nat} (hs : s < 2 ^ m) (hc : cnt m s = k) (hk : k < m) : ∃ i, i < m ∧ s.testBit i = false ∧ s ||| 2 ^ i ∈ uniL m (k + 1) := by
 obtain ⟨i, hi, hb⟩ : ∃ i, i < m ∧ s.testBit i = false := by
  rcases Classical.em (∃ i, i < m ∧ s.testBit i = false) with c | c
  ·exact c
  ·have : cnt m (2 ^ m - 1) ≤ cnt m s := cnt_mono fun i hi _ => by
    cases q : s.testBit i with
    | true => rfl
    | false => exact absurd ⟨i, hi, q⟩ c
   have e : cnt m (2 ^ m - 1) = m := by
    have := cpl_cnt (m := m) (s := 0)
    rw [cnt_zero] at this
    have e2 : cpl m 0 = 2 ^ m - 1 := Nat.eq_of_testBit_eq fun i => by rw [cpl_bit, full_bit]; simp
    rw [e2] at this; omega
   omega
 exact ⟨i, hi, hb, mem_uniL.2 ⟨or_lt hs (pow_lt hi), by rw [cnt_add hi hb, hc]⟩⟩
theorem uni_ne {m : Nat} : ∀ k, k ≤ m → ∃ s, s ∈ uniL m k
 | 0, _ => ⟨0, mem_uniL.2 ⟨Nat.pow_pos (by omega), cnt_zero m⟩⟩
 | k + 1, h => by
  obtain ⟨s, hs⟩ := uni_ne (m := m) k (by omega)
  obtain ⟨h1, h2⟩ := mem_uniL.1 hs
  obtain ⟨i, _, _, h3⟩ := uni_up h1 h2 (by omega)
  exact ⟨_, h3⟩
theorem cnt_swap {m a x y : Nat} (ha : a < 2 ^ m) (hy : y < m) (h1 : a.testBit x = true) (h2 : a.testBit y = false) : cnt m (dif a (2 ^ x) ||| 2 ^ y) = cnt m a := by
 have hxy : (dif a (2 ^ x)).testBit y = false := by rw [testBit_dif, h2]; rfl
 rw [cnt_add hy hxy, cnt_dif ha h1]
theorem uni_mat {m k : Nat} (h8 : m ≤ 8) (hk : k ≤ m) : Mat m (uniL m k) where
 toFam := uniL_fam h8 k
 ne := fun q => by obtain ⟨s, hs⟩ := uni_ne k hk; rw [q] at hs; cases hs
 eqc := fun a ha b hb => by rw [(mem_uniL.1 ha).2, (mem_uniL.1 hb).2]
 ex := fun a ha b hb x h1 h2 => by
  obtain ⟨a1, a2⟩ := mem_uniL.1 ha
  obtain ⟨b1, b2⟩ := mem_uniL.1 hb
  have : ¬ Inc b a := fun q => by
   have := inc_eq_of_cnt q a1 (by omega)
   subst this; rw [h1] at h2; cases h2
  obtain ⟨y, y1, y2⟩ := not_inc this
  have hy := bit_lt b1 y1
  exact ⟨y, y1, y2, mem_uniL.2 ⟨or_lt (dif_lt a1) (pow_lt hy), by rw [cnt_swap a1 hy h1 y2, a2]⟩⟩
/-- The sets of a kind. -/
theorem axioms_family_spec (n : Int) (l : List Int) (hl : l.length ≤ 9223372036854775807) (kind : List Int → Int → Option Bool) (K : Nat → List Nat → Nat → Prop) [∀ m B s, Decidable (K m B s)]
    (hk : ∀ m B, n = (m : Nat) → l = cs B → Mat m B → ∀ s, s < 2 ^ m → kind (cs (rkL m B)) (s : Nat) = some (decide (K m B s))) :
    Gets (axioms_family n l kind) (fun r => (r.2 = 0 ∧ ∃ m B, n = (m : Nat) ∧ l = cs B ∧ Mat m B ∧ r.1 = cs ((List.range (2 ^ m)).filter fun s => K m B s)) ∨ (r.2 ≠ 0 ∧ r.1 = [] ∧ ¬ ∃ m B, n = (m : Nat) ∧ l = cs B ∧ Mat m B)) := by
  unfold axioms_family
  refine gBind (axioms_Check_spec n l hl) fun y hy => gIte (fun h => gSome (.inr ⟨h, rfl, ?_⟩)) fun h => ?_
  · rcases hy with ⟨q, _⟩ | ⟨_, q⟩
    · exact absurd q h
    · exact q
  · rcases hy with ⟨_, m, B, rfl, rfl, hM⟩ | ⟨q, _⟩
    · have h256 := pow_le8 hM.m8
      rw [axioms_ranks_spec hM.toFam]
      simp only [Option.bind_some, cs_len, rkL_len]
      refine gBind (R := fun o => o = cs ((List.range (2 ^ m)).filter fun s => K m B s)) (gFor (2 ^ m) (fun k x => x.2 = (k : Int) ∧ x.1 = cs ((List.range k).filter fun s => K m B s)) (Nat.zero_le _) ⟨rfl, rfl⟩ ?_) fun o ho => gSome (.inl ⟨rfl, m, B, rfl, rfl, hM, ho⟩)
      rintro k ⟨_, _⟩ hk' ⟨rfl, rfl⟩
      simp only
      refine gIte (fun h1 => ?_) fun h1 => gSome (by have : k = 2 ^ m := by omega
                                                     subst this; rfl)
      have hk2 : k < 2 ^ m := by omega
      rw [hk m B rfl rfl hM k hk2]
      simp only [Option.bind_some, decide_eq_true_eq]
      have hle : ((List.range k).filter fun s => K m B s).length ≤ k := by
        have := List.length_filter_le (fun s => decide (K m B s)) (List.range k)
        simpa using this
      refine gIte (fun h2 => gChk (by simp; omega) (gSome ⟨hk2, by simp, ?_⟩)) fun h2 => gSome ⟨hk2, by simp, ?_⟩
      · rw [List.range_succ, List.filter_append, cs_app]; simp [h2]
      · rw [List.range_succ, List.filter_append]; simp [h2]
    · exact absurd q h
/-- Each other element makes more of it. -/
def Flat (m : Nat) (B : List Nat) (s : Nat) : Prop := ∀ i, i < m → s.testBit i = false → rk m B (s ||| 2 ^ i) ≠ rk m B s
instance (m : Nat) (B : List Nat) (s : Nat) : Decidable (Flat m B s) := by unfold Flat; infer_instance
theorem testBit_iff_bit (s i : Nat) : iand ((s : Int) / 2 ^ i) 1 = 0 ↔ s.testBit i = false := by
 have := bit_nat s i
 rw [toNat_nat] at this
 rw [this]; cases s.testBit i <;> simp
theorem axioms_flat_nat {m : Nat} (B : List Nat) (h8 : m ≤ 8) {s : Nat} (hs : s < 2 ^ m) : axioms_flat (cs (rkL m B)) m s = some (decide (Flat m B s)) := by
 have h256 := pow_le8 h8
 refine Gets.eq ?_
 unfold axioms_flat
 simp only [cs_len, rkL_len]
 refine gBind (R := fun z => match z with | .inl _ => Flat m B s | .inr r => r = false ∧ ¬ Flat m B s)
  (gFor m (fun k v => v = (k : Int) ∧ ∀ i, i < k → s.testBit i = false → rk m B (s ||| 2 ^ i) ≠ rk m B s) (Nat.zero_le _) ⟨rfl, none_all⟩ ?_) ?_
 ·rintro k _ hk ⟨rfl, hb⟩
  refine gIte (fun h1 => ?_) fun h1 => gSome fun i hi => hb i (by omega)
  have hkm : k < m := by omega
  have hl := or_lt hs (pow_lt hkm)
  simp only [toNat_nat, shl_nat', or_nat]
  rw [← shl_nat']
  simp only [testBit_iff_bit, cs_get, rkL_get m B hl, rkL_get m B hs]
  refine gChk (by omega) (gIte (fun h2 => gSome ⟨rfl, fun h3 => h3 k hkm h2.1 (by omega)⟩) fun h2 => gSome ⟨hkm, by simp, step_all hb fun h3 h4 => h2 ⟨h3, by omega⟩⟩)
 ·rintro (u | rr) hz
  ·exact gSome (decide_eq_true hz).symm
  ·exact gSome (by rw [hz.1, decide_eq_false hz.2])
theorem axioms_Flats_spec (n : Int) (l : List Int) (hl : l.length ≤ 9223372036854775807) :
  Gets (axioms_Flats n l) (fun r => (r.2 = 0 ∧ ∃ m B, n = (m : Nat) ∧ l = cs B ∧ Mat m B ∧ r.1 = cs ((List.range (2 ^ m)).filter fun s => Flat m B s)) ∨ (r.2 ≠ 0 ∧ r.1 = [] ∧ ¬ ∃ m B, n = (m : Nat) ∧ l = cs B ∧ Mat m B)) := by
 unfold axioms_Flats
 refine gBind (axioms_family_spec n l hl _ Flat ?_) fun r hr => gSome hr
 rintro m B rfl rfl hM s hs
 unfold axioms_Flats_1
 rw [axioms_flat_nat B hM.m8 hs]; rfl
theorem Flats_bad {n : Int} {l : List Int} {c : Int} (h : axioms_Check n l = some c) (h0 : c ≠ 0) : axioms_Flats n l = some ([], c) := by
 unfold axioms_Flats axioms_family
 rw [h]; simp [h0]
def flats (m : Nat) (B : List Nat) : List Nat := (List.range (2 ^ m)).filter fun s => Flat m B s
theorem mem_flats {m : Nat} {B : List Nat} {s : Nat} : s ∈ flats m B ↔ s < 2 ^ m ∧ Flat m B s := by simp [flats]
theorem Flats_ok {m : Nat} {B : List Nat} (h : Mat m B) (hl : B.length ≤ 9223372036854775807) : axioms_Flats m (cs B) = some (cs (flats m B), 0) := by
 refine Gets.eq ((axioms_Flats_spec m (cs B) (by simpa using hl)).mono fun r hr => ?_)
 rcases hr with ⟨h1, m', B', q1, q2, _, q3⟩ | ⟨_, _, q⟩
 ·have : m' = m := by omega
  subst this
  rw [← cs_inj q2] at q3
  exact Prod.ext q3 h1
 ·exact absurd ⟨m, B, rfl, rfl, h⟩ q
theorem flats_of_ok {m : Nat} {B : List Nat} (h : Mat m B) : flats_of m (cs B) = some ((m : Int), cs (flats m B), cs (rkL m B), 0) := by
 unfold flats_of
 rw [Flats_ok h (by have := h.len; omega), Option.bind_some, if_neg (by simp), axioms_Ranks_ok h]; rfl
theorem flats_of_bad {n : Int} {l : List Int} {c : Int} (h : axioms_Check n l = some c) (h0 : c ≠ 0) : flats_of n l = some (0, [], [], c) := by
 unfold flats_of
 rw [Flats_bad h h0, Option.bind_some, if_pos h0]
theorem two_eqU : rotakeep_two = some (((4 : Nat) : Int), cs (uniL 4 2)) := by
 rw [show uniL 4 2 = [3, 5, 6, 9, 10, 12] from by decide +kernel]; rfl
theorem list_extI {a b : List Int} (hl : a.length = b.length) (h : ∀ i, i < a.length → a.getD i 0 = b.getD i 0) : a = b :=
 List.ext_getElem hl fun i h1 h2 => by
  have := h i h1
  rw [List.getD_eq_getElem?_getD, List.getD_eq_getElem?_getD, List.getElem?_eq_getElem h1, List.getElem?_eq_getElem h2] at this
  exact this
theorem Same_spec (a b : List Int) : rotalaw_Same_int a b = some (decide (a = b)) := by
 refine Gets.eq ?_
 unfold rotalaw_Same_int
 refine gIte (fun q => gSome ?_) fun q => ?_
 ·have : a ≠ b := fun e => q (by rw [e])
  simp [this]
 have hl : a.length = b.length := by omega
 refine gBind (R := fun z => match z with | .inl _ => a = b | .inr r => r = false ∧ a ≠ b) (gFor a.length (fun k (x : Int) => x = (k : Int) ∧ ∀ j, j < k → a.getD j 0 = b.getD j 0) (Nat.zero_le _) ⟨rfl, none_all⟩ ?_) ?_
 ·rintro k _ hk ⟨rfl, hI⟩
  simp only [toNat_nat]
  refine gIte (fun h1 => gChk (by omega) (gIte (fun q => gSome ⟨rfl, fun e => q (by rw [e])⟩) fun q => gSome ⟨by omega, by simp, step_all hI (by omega)⟩)) fun h1 => gSome ?_
  refine list_extI hl fun i hi => hI i (by omega)
 ·rintro (u | r) hz
  ·exact gSome (by simp [show a = b from hz])
  ·exact gSome (by rw [hz.1]; simp [hz.2])
theorem rank_okF {m : Nat} (B : List Nat) (h8 : m ≤ 8) (l0 : Int) (l2 : List Int) : flats_lattice_rank l0 l2 (cs (rkL m B)) = some ((rk m B (2 ^ m - 1) : Nat) : Int) := by
 have h256 := pow_le8 h8
 have hpos : 0 < 2 ^ m := Nat.pow_pos (by omega)
 unfold flats_lattice_rank
 simp only [cs_len, rkL_len]
 have e1 : (((2 ^ m : Nat) : Int) - 1).toNat = 2 ^ m - 1 := by omega
 rw [chk_pos (by omega), e1, cs_get, rkL_get m B (by omega)]
def lev (m : Nat) (B : List Nat) : List Int := (List.range (rk m B (2 ^ m - 1) + 1)).map fun j => (((flats m B).countP fun s => decide (rk m B s = j) : Nat) : Int)
theorem lev_len (m : Nat) (B : List Nat) : (lev m B).length = rk m B (2 ^ m - 1) + 1 := by simp [lev]
section
variable {m : Nat} {B : List Nat} (h : Mat m B)
include h
theorem Mat.fam_flats : Fam m (flats m B) := filter_fam h.m8 _
theorem Mat.flat_at {k : Nat} (hk : k < (flats m B).length) : (flats m B).getD k 0 < 2 ^ m ∧ Flat m B ((flats m B).getD k 0) := have _ := h; mem_flats.1 (mem_getD.2 ⟨k, hk, rfl⟩)
theorem Mat.rk_m8 : rk m B (2 ^ m - 1) ≤ 8 := by
 have := h.rk_size (2 ^ m - 1)
 have := cnt_le m (2 ^ m - 1)
 have := h.m8
 omega
theorem Levels_ok : flats_Levels m (cs B) = some (lev m B, 0) := by
 have h8 := h.m8
 have hF := h.fam_flats
 have hlen := hF.len
 have hR := h.rk_m8
 refine Gets.eq ?_
 unfold flats_Levels
 refine gBindE (flats_of_ok h) (gIte (fun q => absurd rfl q) fun _ => gBindE (rank_okF B h8 _ _) (gChk (by omega) ?_))
 have e1 : (((rk m B (2 ^ m - 1) : Nat) : Int) + 1).toNat = rk m B (2 ^ m - 1) + 1 := by omega
 rw [e1]
 refine gBind (R := fun o => o = lev m B) (gFor (flats m B).length (fun k (x : List Int × Int) => x.2 = (k : Int) ∧ x.1.length = rk m B (2 ^ m - 1) + 1 ∧ ∀ j, j < rk m B (2 ^ m - 1) + 1 → x.1.getD j 0 = ((((flats m B).take k).countP (fun s => decide (rk m B s = j)) : Nat) : Int)) (Nat.zero_le _) ⟨rfl, by simp, fun j hj => by
   rw [List.getD_eq_getElem?_getD, List.getElem?_replicate]; simp [hj]⟩ ?_) fun o ho => gSome (by rw [ho])
 rintro k ⟨v, _⟩ hk ⟨rfl, i1, i2⟩
 simp only [cs_len, cs_get, toNat_nat, rkL_len] at i1 i2 ⊢
 refine gIte (fun h1 => gChk (by omega) ?_) fun h1 => gSome ?_
 ·have hk' : k < (flats m B).length := by omega
  obtain ⟨n1, n2⟩ := h.flat_at hk'
  have etake : (flats m B).take (k + 1) = (flats m B).take k ++ [(flats m B).getD k 0] := by
   rw [List.take_add_one, List.getD_eq_getElem?_getD, List.getElem?_eq_getElem hk']; rfl
  have hj := h.rk_top n1
  simp only [rkL_get m B n1]
  have eN := i2 _ (show rk m B ((flats m B).getD k 0) < _ by omega)
  have hcp := List.countP_le_length (p := fun s => decide (rk m B s = rk m B ((flats m B).getD k 0))) (l := (flats m B).take k)
  have htl := List.length_take_le k (flats m B)
  rw [eN]
  refine gChk (by omega) (gSome ⟨hk', by simp, by simp [i1], fun j hj2 => ?_⟩)
  show (v.set _ _).getD j 0 = _
  rw [set_getD _ (by omega), etake, List.countP_append, List.countP_cons, List.countP_nil]
  by_cases e : j = rk m B ((flats m B).getD k 0)
  ·rw [if_pos e, if_pos (by simp [e]), e]; omega
  ·rw [if_neg e, if_neg (by simpa using fun x => e x.symm), i2 j hj2]; omega
 ·have e : k = (flats m B).length := by omega
  subst e
  refine list_ext_getD (by rw [i1, lev_len]) fun j hj => ?_
  rw [i1] at hj
  rw [i2 j hj, List.take_length]
  unfold lev
  rw [List.getD_eq_getElem?_getD, List.getElem?_map, List.getElem?_range hj]
  rfl
end
end Go.SH
