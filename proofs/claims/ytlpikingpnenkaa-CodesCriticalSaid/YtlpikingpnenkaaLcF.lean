/-
 Matrices modulo p, matroids, flats and their numbers (what the law CodesCritical needs of the elder texts). Conditions: none.
-/
import Derived.Test.YtlpikingpnenkaaSp
import Derived.Test.YtlpikingpnenkaaHK
import Derived.Test.YtlpikingpnenkaaLBg
set_option linter.unusedSimpArgs false
set_option linter.unusedVariables false
set_option linter.unusedSectionVars false
namespace Go.SH
open Go Go.AX
/-- g 0 + .. + g (n - 1). -/
def sumN : Nat → (Nat → Int) → Int
 | 0, _ => 0
 | n + 1, g => sumN n g + g n
theorem sumN_congr {n : Nat} {g h : Nat → Int} (e : ∀ i, i < n → g i = h i) : sumN n g = sumN n h := by
 induction n with
 | zero => rfl
 | succ n ih => simp only [sumN]; rw [ih fun i hi => e i (by omega), e n (by omega)]
theorem sumN_le {n : Nat} {g h : Nat → Int} (e : ∀ i, i < n → g i ≤ h i) : sumN n g ≤ sumN n h := by
 induction n with
 | zero => exact Int.le_refl _
 | succ n ih =>
  simp only [sumN]
  have := ih fun i hi => e i (by omega)
  have := e n (by omega)
  omega
theorem sumN_zero (n : Nat) : sumN n (fun _ => 0) = 0 := by
 induction n with
 | zero => rfl
 | succ n ih => simp only [sumN]; rw [ih]; rfl
theorem sumN_mul (n : Nat) (c : Int) (g : Nat → Int) : sumN n (fun i => c * g i) = c * sumN n g := by
 induction n with
 | zero => simp [sumN]
 | succ n ih => simp only [sumN]; rw [ih, Int.mul_add]
/-- How many of the first m elements a set has. -/
def cnt : Nat → Nat → Nat
 | 0, _ => 0
 | m + 1, s => cnt m s + if s.testBit m then 1 else 0
/-- How many elements a set has (of eight). -/
def size (s : Nat) : Nat := cnt 8 s
theorem cnt_le (m s : Nat) : cnt m s ≤ m := by
 induction m with
 | zero => exact Nat.le_refl _
 | succ m ih => simp only [cnt]; split <;> omega
theorem cnt_congr {m s t : Nat} (h : ∀ i, i < m → s.testBit i = t.testBit i) : cnt m s = cnt m t := by
 induction m with
 | zero => rfl
 | succ m ih => simp only [cnt]; rw [ih fun i hi => h i (by omega), h m (by omega)]
theorem cnt_mono {m s t : Nat} (h : ∀ i, i < m → s.testBit i = true → t.testBit i = true) : cnt m s ≤ cnt m t := by
 induction m with
 | zero => exact Nat.le_refl _
 | succ m ih =>
  simp only [cnt]
  have := ih fun i hi => h i (by omega)
  have := h m (by omega)
  split <;> split <;> simp_all <;> omega
theorem cnt_zero (m : Nat) : cnt m 0 = 0 := by
 induction m with
 | zero => rfl
 | succ m ih => simp [cnt, ih]
theorem testBit_pow (i j : Nat) : (2 ^ i).testBit j = decide (i = j) := Nat.testBit_two_pow
theorem cnt_add {m s : Nat} {i : Nat} (hi : i < m) (h : s.testBit i = false) : cnt m (s ||| 2 ^ i) = cnt m s + 1 := by
 induction m with
 | zero => omega
 | succ m ih =>
  simp only [cnt, Nat.testBit_or, testBit_pow]
  rcases Nat.lt_or_ge i m with q | q
  ·rw [ih q]
   have : decide (i = m) = false := by simp; omega
   rw [this, Bool.or_false]; omega
  ·have : i = m := by omega
   subst this
   have e : cnt i (s ||| 2 ^ i) = cnt i s := cnt_congr fun j hj => by
    rw [Nat.testBit_or, testBit_pow]
    have : decide (i = j) = false := by simp; omega
    rw [this, Bool.or_false]
   rw [e, h]; simp
theorem bit_lt {s m i : Nat} (hs : s < 2 ^ m) (h : s.testBit i = true) : i < m := by
 rcases Nat.lt_or_ge i m with q | q
 ·exact q
 ·have := Nat.testBit_lt_two_pow (i := i) (Nat.lt_of_lt_of_le hs (Nat.pow_le_pow_right (by omega) q))
  rw [this] at h; cases h
theorem bit_ge {s m i : Nat} (hs : s < 2 ^ m) (h : m ≤ i) : s.testBit i = false := by
 cases hb : s.testBit i
 ·rfl
 ·have := bit_lt hs hb; omega
theorem lt_of_bits {s m : Nat} (h : ∀ i, m ≤ i → s.testBit i = false) : s < 2 ^ m := by
 rcases Nat.lt_or_ge s (2 ^ m) with q | q
 ·exact q
 ·obtain ⟨i, h1, h2⟩ := Nat.exists_ge_and_testBit_of_ge_two_pow q
  rw [h i h1] at h2; cases h2
theorem cnt_of_lt {m k s : Nat} (hs : s < 2 ^ m) (hk : m ≤ k) : cnt k s = cnt m s := by
  induction k with
  | zero => have : m = 0 := by omega
            subst this; rfl
  | succ k ih =>
    rcases Nat.lt_or_ge m (k + 1) with q | q
    · simp only [cnt]; rw [ih (by omega), bit_ge hs (by omega)]; simp
    · have : m = k + 1 := by omega
      rw [this]
theorem size_of_lt {m s : Nat} (hs : s < 2 ^ m) (hm : m ≤ 8) : size s = cnt m s := cnt_of_lt hs hm
/-- Within. -/
def Inc (s t : Nat) : Prop := ∀ i, s.testBit i = true → t.testBit i = true
theorem sub_iff_and (s t : Nat) : s &&& t = s ↔ Inc s t := by
 constructor
 ·intro h i hs
  have := congrArg (fun x => Nat.testBit x i) h
  simp only [Nat.testBit_and, hs, Bool.true_and] at this
  exact this
 ·intro h
  apply Nat.eq_of_testBit_eq; intro i
  rw [Nat.testBit_and]
  cases hs : s.testBit i
  ·rfl
  ·rw [h i hs]; rfl
theorem sub_iff_dif (s t : Nat) : dif s t = 0 ↔ Inc s t := by
 constructor
 ·intro h i hs
  have := congrArg (fun x => Nat.testBit x i) h
  simp only [testBit_dif, hs, Bool.true_and, Nat.zero_testBit] at this
  cases ht : t.testBit i
  ·rw [ht] at this; cases this
  ·rfl
 ·intro h
  apply Nat.eq_of_testBit_eq; intro i
  rw [testBit_dif, Nat.zero_testBit]
  cases hs : s.testBit i
  ·rfl
  ·rw [h i hs]; rfl
/-- A set grows element by element. -/
theorem set_ind {m : Nat} (p : Nat → Prop) (h0 : p 0) (h : ∀ s i, s < 2 ^ m → i < m → s.testBit i = false → p s → p (s ||| 2 ^ i)) : ∀ s, s < 2 ^ m → p s := by
  have key : ∀ k s, s < 2 ^ k → k ≤ m → p s := by
    intro k
    induction k with
    | zero => intro s hs _; have : s = 0 := by omega
              subst this; exact h0
    | succ k ih =>
      intro s hs hk
      by_cases hb : s.testBit k = true
      · let t := dif s (2 ^ k)
        have ht : t < 2 ^ k := lt_of_bits fun i hi => by
          show (dif s (2 ^ k)).testBit i = false
          rw [testBit_dif, testBit_pow]
          rcases Nat.lt_or_ge i (k + 1) with q | q
          · have : k = i := by omega
            subst this; simp
          · rw [bit_ge hs q]; rfl
        have e : s = t ||| 2 ^ k := by
          apply Nat.eq_of_testBit_eq; intro i
          rw [Nat.testBit_or, testBit_pow]
          show _ = ((dif s (2 ^ k)).testBit i || _)
          rw [testBit_dif, testBit_pow]
          by_cases q : k = i
          · subst q; simp [hb]
          · simp [q]
        rw [e]
        exact h t k (Nat.lt_of_lt_of_le ht (Nat.pow_le_pow_right (by omega) (by omega))) (by omega) (bit_ge ht (Nat.le_refl _)) (ih t ht (by omega))
      · refine ih s (lt_of_bits fun i hi => ?_) (by omega)
        rcases Nat.lt_or_ge i (k + 1) with q | q
        · have : k = i := by omega
          subst this; simpa using hb
        · exact bit_ge hs q
  exact fun s hs => key m s hs (Nat.le_refl _)
theorem dif_self_pow {s i j : Nat} (h : s.testBit j = true) (hij : i ≠ j) : (dif s (2 ^ i)).testBit j = true := by
 rw [testBit_dif, testBit_pow, h]; simp [hij]
theorem dif_or {c i : Nat} (h1 : c.testBit i = true) : dif c (2 ^ i) ||| 2 ^ i = c := by
 apply Nat.eq_of_testBit_eq; intro j
 rw [Nat.testBit_or, testBit_dif, testBit_pow]
 by_cases e : i = j
 ·subst e; simp [h1]
 ·simp [e]
theorem cnt_dif {m c i : Nat} (hc : c < 2 ^ m) (h1 : c.testBit i = true) : cnt m c = cnt m (dif c (2 ^ i)) + 1 := by
 have := cnt_add (m := m) (s := dif c (2 ^ i)) (bit_lt hc h1) (by rw [testBit_dif, testBit_pow]; simp)
 rwa [dif_or h1] at this
theorem cnt_pos {m c i : Nat} (hc : c < 2 ^ m) (h1 : c.testBit i = true) : 0 < cnt m c := by have := cnt_dif hc h1; omega
theorem exists_bit {c : Nat} (h : c ≠ 0) : ∃ i, c.testBit i = true := by
 rcases Classical.em (∃ i, c.testBit i = true) with q | q
 ·exact q
 ·exfalso; apply h
  apply Nat.eq_of_testBit_eq; intro i
  rw [Nat.zero_testBit]
  cases hb : c.testBit i
  ·rfl
  ·exact absurd ⟨i, hb⟩ q
theorem or_eq_iff (s t : Nat) : s ||| t = t ↔ Inc s t := by
 constructor
 ·intro h i hs
  rw [← h, Nat.testBit_or, hs]; rfl
 ·intro h
  apply Nat.eq_of_testBit_eq; intro i
  rw [Nat.testBit_or]
  cases hs : s.testBit i
  ·rfl
  ·rw [h i hs]; rfl
theorem Inc.trans {a b c : Nat} (h : Inc a b) (k : Inc b c) : Inc a c := fun i hi => k i (h i hi)
theorem Inc.antisymm {a b : Nat} (h : Inc a b) (k : Inc b a) : a = b := by
 apply Nat.eq_of_testBit_eq; intro i
 rw [Bool.eq_iff_iff]; exact ⟨h i, k i⟩
instance instIncDec (a b : Nat) : Decidable (Inc a b) := decidable_of_iff (a &&& b = a) (sub_iff_and a b)
theorem step_all {p : Nat → Prop} {k : Nat} (h1 : ∀ j, j < k → p j) (h2 : p k) : ∀ j, j < k + 1 → p j := fun j hj => by
 rcases Nat.lt_or_ge j k with q | q
 ·exact h1 j q
 ·have : j = k := by omega
  subst this; exact h2
theorem none_all {p : Nat → Prop} : ∀ j, j < 0 → p j := fun j hj => absurd hj (Nat.not_lt_zero j)
/-- A list of sets, as numbers of the program's. -/
def cs (L : List Nat) : List Int := L.map Nat.cast
@[simp] theorem cs_len (L : List Nat) : (cs L).length = L.length := by simp [cs]
theorem cs_get (L : List Nat) (k : Nat) : (cs L).getD k 0 = ((L.getD k 0 : Nat) : Int) := by
 simp only [cs, List.getD_eq_getElem?_getD, List.getElem?_map]
 cases L[k]? <;> simp
theorem cs_app (L : List Nat) (a : Nat) : cs L ++ [(a : Int)] = cs (L ++ [a]) := by simp [cs]
theorem cs_inj {L K : List Nat} (h : cs L = cs K) : L = K := by
 have := congrArg (List.map Int.toNat) h
 simpa [cs, Function.comp_def] using this
theorem cs_of {l : List Int} (h : ∀ k, k < l.length → 0 ≤ l.getD k 0) : l = cs (l.map Int.toNat) := by
 apply List.ext_getElem? ; intro i
 simp only [cs, List.map_map, List.getElem?_map]
 cases hi : l[i]? with
 | none => rfl
 | some x =>
  have hlt := (List.getElem?_eq_some_iff.1 hi).1
  have := h i hlt
  rw [List.getD_eq_getElem?_getD, hi] at this
  simp only [Option.getD_some] at this
  simp only [Option.map_some, Function.comp_apply, Option.some.injEq]; omega
theorem cs_mem (L : List Nat) (a : Nat) : (a : Int) ∈ cs L ↔ a ∈ L := by
 simp only [cs, List.mem_map]
 constructor
 ·rintro ⟨b, h, e⟩; have : b = a := by omega
  rwa [← this]
 ·intro h; exact ⟨a, h, rfl⟩
theorem mem_getD {L : List Nat} {a : Nat} : a ∈ L ↔ ∃ k, k < L.length ∧ L.getD k 0 = a := by
 rw [List.mem_iff_getElem?]
 constructor
 ·rintro ⟨i, hi⟩
  exact ⟨i, (List.getElem?_eq_some_iff.1 hi).1, by rw [List.getD_eq_getElem?_getD, hi]; rfl⟩
 ·rintro ⟨k, h1, h2⟩
  refine ⟨k, ?_⟩
  rw [List.getElem?_eq_getElem h1]
  rw [List.getD_eq_getElem?_getD, List.getElem?_eq_getElem h1] at h2
  exact congrArg some h2
/-- It rises. -/
def Rise (l : List Int) : Prop := ∀ i j, i < j → j < l.length → l.getD i 0 < l.getD j 0
/-- A family: sets of m elements, rising. -/
structure Fam (m : Nat) (L : List Nat) : Prop where
 m8 : m ≤ 8
 lt : ∀ s, s ∈ L → s < 2 ^ m
 rise : ∀ i j, i < j → j < L.length → L.getD i 0 < L.getD j 0
theorem Fam.Rise {m : Nat} {L : List Nat} (h : Fam m L) : Rise (cs L) := fun i j hij hj => by
 rw [cs_get, cs_get]; have := h.rise i j hij (by simpa using hj); omega
theorem Fam.ge {m : Nat} {L : List Nat} (h : Fam m L) : ∀ k, k < L.length → k ≤ L.getD k 0 := fun k => by
 induction k with
 | zero => intro _; exact Nat.zero_le _
 | succ k ih => intro hk; have := ih (by omega); have := h.rise k (k + 1) (by omega) hk; omega
theorem Fam.len {m : Nat} {L : List Nat} (h : Fam m L) : L.length ≤ 256 := by
 rcases Nat.eq_zero_or_pos L.length with q | q
 ·omega
 ·have h1 := h.ge (L.length - 1) (by omega)
  have h2 := h.lt _ (mem_getD.2 ⟨L.length - 1, by omega, rfl⟩)
  have := pow_le8 h.m8
  omega
theorem sets_Family_spec (n : Int) (l : List Int) (hl : l.length ≤ 9223372036854775807) : Gets (sets_Family n l) (fun r => (r = 0 ∧ ∃ m L, n = (m : Nat) ∧ l = cs L ∧ Fam m L) ∨ (r = 1 ∧ ¬ ∃ m L, n = (m : Nat) ∧ l = cs L ∧ Fam m L)) := by
 unfold sets_Family
 refine gIte (fun h => gSome (.inr ⟨rfl, ?_⟩)) fun h => ?_
 ·rintro ⟨m, L, rfl, rfl, hf⟩
  have := hf.m8; omega
 ·obtain ⟨m, rfl⟩ := Int.eq_ofNat_of_zero_le (show 0 ≤ n by omega)
  refine gBind (R := fun z => match z with | .inl _ => ∀ k, k < l.length → 0 ≤ l.getD k 0 ∧ l.getD k 0 < ((2 ^ m : Nat) : Int) ∧ (0 < k → l.getD (k - 1) 0 < l.getD k 0) | .inr r => r = 1 ∧ ¬ ∀ k, k < l.length → 0 ≤ l.getD k 0 ∧ l.getD k 0 < ((2 ^ m : Nat) : Int) ∧ (0 < k → l.getD (k - 1) 0 < l.getD k 0))
   (gFor l.length (fun k v => v = (k : Int) ∧ ∀ j, j < k → 0 ≤ l.getD j 0 ∧ l.getD j 0 < ((2 ^ m : Nat) : Int) ∧ (0 < j → l.getD (j - 1) 0 < l.getD j 0)) (Nat.zero_le _) ⟨rfl, none_all⟩ ?_) ?_
  ·rintro k _ hk ⟨rfl, hb⟩
   refine gIte (fun h1 => gChk (by omega) ?_) fun h1 => gSome fun j hj => hb j (by omega)
   have e : ((k : Int) - 1).toNat = k - 1 := by omega
   simp only [toNat_nat, shl_nat', e]
   refine gChk (by omega) (gIte (fun h2 => gSome ⟨rfl, fun h3 => ?_⟩) fun h2 => gSome ⟨by omega, by simp, step_all hb (by omega)⟩)
   have := h3 k (by omega)
   omega
  ·rintro (u | rr) hz
   ·refine gSome (.inl ⟨rfl, m, l.map Int.toNat, rfl, cs_of fun k hk => (hz k hk).1, by omega, fun s hs => ?_, fun i j hij hj => ?_⟩)
    ·obtain ⟨k, h1, h2⟩ := mem_getD.1 hs
     rw [cs_of fun k hk => (hz k hk).1] at hz
     have := (hz k (by simpa using h1)).2.1
     rw [cs_get, h2] at this; omega
    ·have hcs := cs_of fun k hk => (hz k hk).1
     have key : ∀ d i, i + d + 1 < l.length → l.getD i 0 < l.getD (i + d + 1) 0 := fun d => by
      induction d with
      | zero => intro i hi; exact (hz (i + 1) hi).2.2 (by omega)
      | succ d ih => intro i hi; have := ih i (by omega); have := (hz (i + (d + 1) + 1) hi).2.2 (by omega); rw [show i + (d + 1) + 1 - 1 = i + d + 1 by omega] at this; omega
     have := key (j - i - 1) i (by simp at hj; omega)
     rw [show i + (j - i - 1) + 1 = j by omega, hcs, cs_get, cs_get] at this
     omega
   ·refine gSome (.inr ⟨hz.1, ?_⟩)
    rintro ⟨m', L, he, rfl, hf⟩
    have : m' = m := by omega
    subst this
    refine hz.2 fun k hk => ?_
    rw [cs_len] at hk
    rw [cs_get, cs_get]
    have h1 := hf.lt _ (mem_getD.2 ⟨k, hk, rfl⟩)
    refine ⟨by omega, by omega, fun h0 => ?_⟩
    have := hf.rise (k - 1) k (by omega) hk
    omega
theorem isNaN_eq (x : Int) : slices_isNaN_int x = some false := by simp [slices_isNaN_int]
theorem cisNaN_eq (x : Int) : cmp_isNaN_int x = some false := by simp [cmp_isNaN_int]
theorem Less_eq (x y : Int) : cmp_Less_int x y = some (decide (x < y)) := by simp [cmp_Less_int, cisNaN_eq]
theorem BinarySearch_spec (l : List Int) (t : Int) (hr : Rise l) (hl : l.length < 2 ^ 60) : Gets (slices_BinarySearch_int_int l t) (fun r => r.2 = true ↔ t ∈ l) := by
 unfold slices_BinarySearch_int_int
 refine gBind (R := fun i => ∃ k : Nat, i = (k : Int) ∧ k ≤ l.length ∧ (∀ j, j < k → l.getD j 0 < t) ∧ ∀ j, k ≤ j → j < l.length → t ≤ l.getD j 0)
  (gLoop (fun s => ∃ a b : Nat, s.1 = (a : Int) ∧ s.2 = (b : Int) ∧ a ≤ b ∧ b ≤ l.length ∧ (∀ j, j < a → l.getD j 0 < t) ∧ ∀ j, b ≤ j → j < l.length → t ≤ l.getD j 0) (fun s => (s.2 - s.1).toNat) ⟨0, l.length, rfl, rfl, Nat.zero_le _, Nat.le_refl _, none_all, fun j h1 h2 => by omega⟩ ?_) ?_
 ·rintro ⟨_, _⟩ ⟨a, b, rfl, rfl, hab, hb, h1, h2⟩
  simp only
  refine gIte (fun h3 => ?_) fun h3 => gSome ⟨a, rfl, by omega, h1, fun j hj => h2 j (by omega)⟩
  have e : ((a : Int) + b) / 2 ^ 1 = (((a + b) / 2 : Nat) : Int) := by omega
  simp only [e, toNat_nat, Less_eq, Option.bind_some]
  refine gChk (by omega) (gChk (by omega) (gIte (fun h4 => gChk (by omega) (gSome ⟨⟨(a + b) / 2 + 1, b, by simp, rfl, by omega, hb, fun j hj => ?_, h2⟩, by simp only; omega⟩)) fun h4 => gSome ⟨⟨a, (a + b) / 2, rfl, rfl, by omega, by omega, h1, fun j h5 h6 => ?_⟩, by simp only; omega⟩))
  ·have h4 := of_decide_eq_true h4
   rcases Nat.lt_or_ge j ((a + b) / 2) with q | q
   ·have := hr j ((a + b) / 2) q (by omega); omega
   ·have : j = (a + b) / 2 := by omega
    subst this; exact h4
  ·have h4 : ¬ l.getD ((a + b) / 2) 0 < t := fun q => h4 (decide_eq_true q)
   rcases Nat.lt_or_ge ((a + b) / 2) j with q | q
   ·have := hr ((a + b) / 2) j q h6; omega
   ·have : j = (a + b) / 2 := by omega
    subst this; omega
 ·rintro _ ⟨k, rfl, hk, h1, h2⟩
  have get : ∀ j, j < l.length → l.getD j 0 ∈ l := fun j hj => by
   rw [List.getD_eq_getElem?_getD, List.getElem?_eq_getElem hj]; exact List.getElem_mem hj
  refine gChk (by omega) ?_
  simp only [toNat_nat, isNaN_eq]
  refine gBindE (a := false) (by split <;> rfl) (gBindE (a := false) (by split <;> rfl) (gSome ?_))
  simp only [decide_eq_true_eq]
  constructor
  ·rintro ⟨h3, h4⟩
   rcases h4 with h4 | h4
   ·rw [← h4]; exact get k (by omega)
   ·exact absurd h4.1 (by simp)
  ·intro h3
   obtain ⟨j, hj, rfl⟩ := List.getElem_of_mem h3
   have ej : l.getD j 0 = l[j] := by rw [List.getD_eq_getElem?_getD, List.getElem?_eq_getElem hj]; rfl
   have hkj : k ≤ j := by
    rcases Nat.lt_or_ge j k with q | q
    ·have := h1 j q; omega
    ·exact q
   refine ⟨by omega, .inl ?_⟩
   have h5 := h2 k (Nat.le_refl _) (by omega)
   rcases Nat.lt_or_ge k j with q | q
   ·have := hr k j q hj; omega
   ·have : k = j := by omega
    subst this; exact ej
/-- The least element. -/
def lo1 (t : Nat) : Nat := if t.testBit 0 then 0 else if t.testBit 1 then 1 else if t.testBit 2 then 2 else if t.testBit 3 then 3 else if t.testBit 4 then 4 else if t.testBit 5 then 5 else if t.testBit 6 then 6 else 7
theorem low_tab : ∀ t : Fin 256, t.val ≠ 0 → (iand (t.val : Int) (-(t.val : Int)) = ((2 ^ lo1 t.val : Nat) : Int) ∧ iand (t.val : Int) ((t.val : Int) - 1) = ((dif t.val (2 ^ lo1 t.val) : Nat) : Int) ∧ t.val.testBit (lo1 t.val) = true ∧ (∀ j : Fin 8, j.val < lo1 t.val → t.val.testBit j.val = false) ∧ dif t.val (2 ^ lo1 t.val) < t.val) :=
 of_decide_eq_true (by kernel_rfl)
structure IsLow (t i : Nat) : Prop where
 neg : iand (t : Int) (-(t : Int)) = ((2 ^ i : Nat) : Int)
 rest : iand (t : Int) ((t : Int) - 1) = ((dif t (2 ^ i) : Nat) : Int)
 bit : t.testBit i = true
 least : ∀ j, j < i → t.testBit j = false
 less : dif t (2 ^ i) < t
theorem low_spec {t : Nat} (h : t < 256) (h0 : t ≠ 0) : IsLow t (lo1 t) := by
 obtain ⟨h1, h2, h3, h4, h5⟩ := low_tab ⟨t, h⟩ h0
 refine ⟨h1, h2, h3, fun j hj => ?_, h5⟩
 have : lo1 t < 8 := by unfold lo1; repeat' split <;> (try omega)
 exact h4 ⟨j, by omega⟩ hj
theorem cnt_or_and (m a b : Nat) : cnt m (a ||| b) + cnt m (a &&& b) = cnt m a + cnt m b := by
 induction m with
 | zero => rfl
 | succ m ih =>
  simp only [cnt, Nat.testBit_or, Nat.testBit_and]
  cases a.testBit m <;> cases b.testBit m <;> simp <;> omega
theorem cnt_split (m a b : Nat) : cnt m a = cnt m (a &&& b) + cnt m (dif a b) := by
 induction m with
 | zero => rfl
 | succ m ih =>
  simp only [cnt, testBit_dif, Nat.testBit_and]
  cases a.testBit m <;> cases b.testBit m <;> simp <;> omega
theorem cnt_le_of_inc {m a b : Nat} (h : Inc a b) : cnt m a ≤ cnt m b := cnt_mono fun i _ hi => h i hi
theorem inc_and_l (a b : Nat) : Inc (a &&& b) a := fun i hi => by rw [Nat.testBit_and, Bool.and_eq_true] at hi; exact hi.1
theorem inc_and_r (a b : Nat) : Inc (a &&& b) b := fun i hi => by rw [Nat.testBit_and, Bool.and_eq_true] at hi; exact hi.2
theorem inc_and {a b c : Nat} (h : Inc c a) (k : Inc c b) : Inc c (a &&& b) := fun i hi => by rw [Nat.testBit_and, h i hi, k i hi]; rfl
theorem inc_or_l (a b : Nat) : Inc a (a ||| b) := fun i hi => by rw [Nat.testBit_or, hi]; rfl
theorem inc_or_r (a b : Nat) : Inc b (a ||| b) := fun i hi => by rw [Nat.testBit_or, hi, Bool.or_true]
theorem inc_or {a b c : Nat} (h : Inc a c) (k : Inc b c) : Inc (a ||| b) c := fun i hi => by
 rw [Nat.testBit_or, Bool.or_eq_true] at hi
 rcases hi with hi | hi
 ·exact h i hi
 ·exact k i hi
theorem inc_dif (a b : Nat) : Inc (dif a b) a := fun i hi => by rw [testBit_dif] at hi; simp only [Bool.and_eq_true] at hi; exact hi.1
theorem inc_pow {i s : Nat} (h : s.testBit i = true) : Inc (2 ^ i) s := fun j hj => by
 rw [testBit_pow, decide_eq_true_eq] at hj; subst hj; exact h
theorem Inc.refl (a : Nat) : Inc a a := fun _ h => h
theorem inc_zero (a : Nat) : Inc 0 a := fun i hi => by simp at hi
theorem Inc.lt {a b m : Nat} (h : Inc a b) (hb : b < 2 ^ m) : a < 2 ^ m := lt_of_bits fun i hi => by
 cases q : a.testBit i
 ·rfl
 ·have := bit_lt hb (h i q); omega
theorem not_inc {a b : Nat} (h : ¬ Inc a b) : ∃ i, a.testBit i = true ∧ b.testBit i = false := by
 rcases Classical.em (∃ i, a.testBit i = true ∧ b.testBit i = false) with q | q
 ·exact q
 ·exfalso; apply h; intro i hi
  cases hb : b.testBit i
  ·exact absurd ⟨i, hi, hb⟩ q
  ·rfl
theorem cnt_lt_of {m a b i : Nat} (h : Inc a b) (hb : b < 2 ^ m) (h1 : b.testBit i = true) (h2 : a.testBit i = false) : cnt m a < cnt m b := by
 have h3 := cnt_dif hb h1
 have : Inc a (dif b (2 ^ i)) := fun j hj => dif_self_pow (h j hj) (by rintro rfl; rw [hj] at h2; cases h2)
 have := cnt_le_of_inc (m := m) this
 omega
theorem inc_eq_of_cnt {m a b : Nat} (h : Inc a b) (hb : b < 2 ^ m) (hc : cnt m b ≤ cnt m a) : a = b := by
 refine Inc.antisymm h fun i hi => ?_
 cases q : a.testBit i
 ·have := cnt_lt_of h hb hi q; omega
 ·rfl
/-- A matroid by its bases. -/
structure Mat (m : Nat) (B : List Nat) : Prop extends Fam m B where
 ne : B ≠ []
 eqc : ∀ a, a ∈ B → ∀ b, b ∈ B → cnt m a = cnt m b
 ex : ∀ a, a ∈ B → ∀ b, b ∈ B → ∀ x, a.testBit x = true → b.testBit x = false → ∃ y, b.testBit y = true ∧ a.testBit y = false ∧ dif a (2 ^ x) ||| 2 ^ y ∈ B
/-- Independent: within a basis. -/
def Ind (B : List Nat) (s : Nat) : Prop := ∃ b, b ∈ B ∧ Inc s b
theorem Ind.mono {B : List Nat} {s t : Nat} (h : Ind B t) (hs : Inc s t) : Ind B s := let ⟨b, h1, h2⟩ := h; ⟨b, h1, hs.trans h2⟩
theorem testBit_swap {a x y i : Nat} (hxy : x ≠ y) : (dif a (2 ^ x) ||| 2 ^ y).testBit i = true ↔ (i = y ∨ (a.testBit i = true ∧ i ≠ x)) := by
 rw [Nat.testBit_or, testBit_dif, testBit_pow, testBit_pow]
 simp only [Bool.or_eq_true, Bool.and_eq_true, Bool.not_eq_true', decide_eq_true_eq, decide_eq_false_iff_not]
 constructor
 ·rintro (⟨h1, h2⟩ | rfl)
  ·exact .inr ⟨h1, fun e => h2 e.symm⟩
  ·exact .inl rfl
 ·rintro (rfl | ⟨h1, h2⟩)
  ·exact .inr rfl
  ·exact .inl ⟨h1, fun e => h2 e.symm⟩
section
variable {m : Nat} {B : List Nat} (h : Mat m B)
include h
theorem Mat.ind_lt {s : Nat} (hs : Ind B s) : s < 2 ^ m := let ⟨b, h1, h2⟩ := hs; h2.lt (h.lt b h1)
theorem Mat.aug_aux : ∀ (d : Nat) (b1 b2 I J : Nat), b1 ∈ B → b2 ∈ B → Inc I b1 → Inc J b2 → cnt m (dif b2 (J ||| b1)) ≤ d → cnt m I < cnt m J → ∃ y, J.testBit y = true ∧ I.testBit y = false ∧ Ind B (I ||| 2 ^ y) := by
 intro d
 induction d with
 | zero =>
  intro b1 b2 I J h1 h2 hI hJ hd hc
  have hb1 := h.lt b1 h1
  have hb2 := h.lt b2 h2
  have e0 : Inc b2 (J ||| b1) := by
   rw [← sub_iff_dif]
   rcases Classical.em (dif b2 (J ||| b1) = 0) with q | q
   ·exact q
   ·obtain ⟨i, hi⟩ := exists_bit q
    have := cnt_pos (dif_lt hb2) hi
    omega
  rcases Classical.em (Inc b1 (I ||| b2)) with q | q
  ·rcases Classical.em (∃ y, J.testBit y = true ∧ b1.testBit y = true ∧ I.testBit y = false) with r | r
   ·obtain ⟨y, r1, r2, r3⟩ := r
    exact ⟨y, r1, r3, b1, h1, inc_or hI (inc_pow r2)⟩
   ·exfalso
    have k1 : Inc (dif J I) (dif b2 b1) := fun i hi => by
     rw [testBit_dif] at hi ⊢
     simp only [Bool.and_eq_true, Bool.not_eq_true'] at hi ⊢
     refine ⟨hJ i hi.1, ?_⟩
     cases hb : b1.testBit i
     ·rfl
     ·exact absurd ⟨i, hi.1, hb, hi.2⟩ r
    have k2 : Inc (dif b1 b2) (dif I J) := fun i hi => by
     rw [testBit_dif] at hi ⊢
     simp only [Bool.and_eq_true, Bool.not_eq_true'] at hi ⊢
     have := q i hi.1
     rw [Nat.testBit_or, hi.2, Bool.or_false] at this
     refine ⟨this, ?_⟩
     cases hb : J.testBit i
     ·rfl
     ·rw [hJ i hb] at hi; cases hi.2
    have c1 := cnt_le_of_inc (m := m) k1
    have c2 := cnt_le_of_inc (m := m) k2
    have c3 := h.eqc b1 h1 b2 h2
    have c4 := cnt_split m b1 b2
    have c5 := cnt_split m b2 b1
    rw [Nat.and_comm] at c5
    have c6 := cnt_split m I J
    have c7 := cnt_split m J I
    rw [Nat.and_comm] at c7
    omega
  ·obtain ⟨x, q1, q2⟩ := not_inc q
   rw [Nat.testBit_or, Bool.or_eq_false_iff] at q2
   obtain ⟨y, r1, r2, r3⟩ := h.ex b1 h1 b2 h2 x q1 q2.2
   have hxy : x ≠ y := by rintro rfl; rw [q1] at r2; cases r2
   have hJy : J.testBit y = true := by
    have := e0 y r1
    rw [Nat.testBit_or, r2, Bool.or_false] at this; exact this
   have hIy : I.testBit y = false := by
    cases hb : I.testBit y
    ·rfl
    ·rw [hI y hb] at r2; cases r2
   refine ⟨y, hJy, hIy, _, r3, fun i hi => (testBit_swap hxy).2 ?_⟩
   rw [Nat.testBit_or, testBit_pow, Bool.or_eq_true, decide_eq_true_eq] at hi
   rcases hi with hi | rfl
   ·exact .inr ⟨hI i hi, by rintro rfl; rw [hi] at q2; cases q2.1⟩
   ·exact .inl rfl
 | succ d ih =>
  intro b1 b2 I J h1 h2 hI hJ hd hc
  have hb2 := h.lt b2 h2
  rcases Classical.em (dif b2 (J ||| b1) = 0) with q | q
  ·exact ih b1 b2 I J h1 h2 hI hJ (by rw [q, cnt_zero]; omega) hc
  ·obtain ⟨x, hx⟩ := exists_bit q
   have hx' := hx
   rw [testBit_dif, Nat.testBit_or] at hx'
   simp only [Bool.and_eq_true, Bool.not_eq_true', Bool.or_eq_false_iff] at hx'
   obtain ⟨hx1, hx2, hx3⟩ := hx'
   obtain ⟨y, r1, r2, r3⟩ := h.ex b2 h2 b1 h1 x hx1 hx3
   have hxy : x ≠ y := by rintro rfl; rw [hx1] at r2; cases r2
   refine ih b1 _ I J h1 r3 hI (fun i hi => (testBit_swap hxy).2 (.inr ⟨hJ i hi, by rintro rfl; rw [hi] at hx2; cases hx2⟩)) ?_ hc
   have : Inc (dif (dif b2 (2 ^ x) ||| 2 ^ y) (J ||| b1)) (dif b2 (J ||| b1)) := fun i hi => by
    rw [testBit_dif] at hi ⊢
    simp only [Bool.and_eq_true, Bool.not_eq_true'] at hi ⊢
    refine ⟨?_, hi.2⟩
    rcases (testBit_swap hxy).1 hi.1 with rfl | ⟨q1, _⟩
    ·have := hi.2
     rw [Nat.testBit_or, r1, Bool.or_true] at this; cases this
    ·exact q1
   have := cnt_lt_of this (dif_lt hb2) hx (by
    rw [testBit_dif]
    have : (dif b2 (2 ^ x) ||| 2 ^ y).testBit x = false := by
     cases hb : (dif b2 (2 ^ x) ||| 2 ^ y).testBit x
     ·rfl
     ·rcases (testBit_swap hxy).1 hb with e | ⟨_, e⟩
      ·exact absurd e hxy
      ·exact absurd rfl e
    rw [this]; rfl)
   omega
/-- The smaller of two independent sets grows by an element of the greater one. -/
theorem Mat.aug {I J : Nat} (hI : Ind B I) (hJ : Ind B J) (hc : cnt m I < cnt m J) : ∃ y, J.testBit y = true ∧ I.testBit y = false ∧ Ind B (I ||| 2 ^ y) := by
 obtain ⟨b1, h1, k1⟩ := hI
 obtain ⟨b2, h2, k2⟩ := hJ
 exact h.aug_aux _ b1 b2 I J h1 h2 k1 k2 (Nat.le_refl _) hc
end
/-- How much of a basis lies in a set at most. -/
def rk (m : Nat) (B : List Nat) (s : Nat) : Nat := B.foldl (fun r b => max r (cnt m (s &&& b))) 0
theorem foldl_max_le {B : List Nat} {f : Nat → Nat} {a k : Nat} : B.foldl (fun r b => max r (f b)) a ≤ k ↔ a ≤ k ∧ ∀ b, b ∈ B → f b ≤ k := by
 induction B generalizing a with
 | nil => simp
 | cons c B ih =>
  rw [List.foldl_cons, ih]
  constructor
  ·rintro ⟨h1, h2⟩
   refine ⟨by omega, fun b hb => ?_⟩
   rcases List.mem_cons.1 hb with rfl | hb
   ·omega
   ·exact h2 b hb
  ·rintro ⟨h1, h2⟩
   have := h2 c (by simp)
   exact ⟨by omega, fun b hb => h2 b (by simp [hb])⟩
theorem foldl_max_mem {B : List Nat} {f : Nat → Nat} {a : Nat} : B.foldl (fun r b => max r (f b)) a = a ∨ ∃ b, b ∈ B ∧ B.foldl (fun r b => max r (f b)) a = f b := by
 induction B generalizing a with
 | nil => exact .inl rfl
 | cons c B ih =>
  rw [List.foldl_cons]
  rcases ih (a := max a (f c)) with q | ⟨b, q1, q2⟩
  ·rw [q]
   rcases Nat.le_total a (f c) with r | r
   ·exact .inr ⟨c, by simp, by omega⟩
   ·left; omega
  ·exact .inr ⟨b, by simp [q1], q2⟩
theorem rk_le {m : Nat} {B : List Nat} {s k : Nat} : rk m B s ≤ k ↔ ∀ b, b ∈ B → cnt m (s &&& b) ≤ k := by
 unfold rk; rw [foldl_max_le]; simp
theorem le_rk {m : Nat} {B : List Nat} {s b : Nat} (hb : b ∈ B) : cnt m (s &&& b) ≤ rk m B s := rk_le.1 (Nat.le_refl _) b hb
section
variable {m : Nat} {B : List Nat} (h : Mat m B)
include h
theorem Mat.exists_basis : ∃ b, b ∈ B := by
 cases hB : B with
 | nil => exact absurd hB h.ne
 | cons b r => exact ⟨b, by simp⟩
theorem Mat.rk_mem (s : Nat) : ∃ b, b ∈ B ∧ rk m B s = cnt m (s &&& b) := by
 unfold rk
 rcases foldl_max_mem (B := B) (f := fun b => cnt m (s &&& b)) (a := 0) with q | q
 ·obtain ⟨b, hb⟩ := h.exists_basis
  have := rk_le (m := m) (B := B) (s := s) (k := 0)
  unfold rk at this
  have h0 := (this.1 (by omega)) b hb
  exact ⟨b, hb, by omega⟩
 ·exact q
/-- The rank is the size of a greatest independent set within. -/
theorem Mat.rk_ind {s : Nat} : ∃ I, Ind B I ∧ Inc I s ∧ cnt m I = rk m B s := by
 obtain ⟨b, h1, h2⟩ := h.rk_mem s
 exact ⟨s &&& b, ⟨b, h1, inc_and_r s b⟩, inc_and_l s b, h2.symm⟩
theorem Mat.ind_le {I s : Nat} (hI : Ind B I) (hs : Inc I s) : cnt m I ≤ rk m B s := by
 have _ := h
 obtain ⟨b, h1, h2⟩ := hI
 exact Nat.le_trans (cnt_le_of_inc (inc_and hs h2)) (le_rk h1)
/-- An independent set in another one grows to a greatest one. -/
theorem Mat.extend {u : Nat} : ∀ (k : Nat) (I : Nat), rk m B u - cnt m I ≤ k → Ind B I → Inc I u → ∃ J, Ind B J ∧ Inc I J ∧ Inc J u ∧ cnt m J = rk m B u := by
 intro k
 induction k with
 | zero =>
  intro I hk hI hs
  have := h.ind_le hI hs
  exact ⟨I, hI, Inc.refl I, hs, by omega⟩
 | succ k ih =>
  intro I hk hI hs
  rcases Nat.lt_or_ge (cnt m I) (rk m B u) with q | q
  ·obtain ⟨J, j1, j2, j3⟩ := h.rk_ind (s := u)
   obtain ⟨y, y1, y2, y3⟩ := h.aug hI j1 (by omega)
   have hy : y < m := bit_lt (h.ind_lt j1) y1
   obtain ⟨J', k1, k2, k3, k4⟩ := ih (I ||| 2 ^ y) (by rw [cnt_add hy y2]; omega) y3 (inc_or hs (inc_pow (j2 y y1)))
   exact ⟨J', k1, (inc_or_l _ _).trans k2, k3, k4⟩
  ·have := h.ind_le hI hs
   exact ⟨I, hI, Inc.refl I, hs, by omega⟩
theorem Mat.rk_mono {s t : Nat} (hs : Inc s t) : rk m B s ≤ rk m B t := by
 obtain ⟨I, h1, h2, h3⟩ := h.rk_ind (s := s)
 rw [← h3]; exact h.ind_le h1 (h2.trans hs)
theorem Mat.rk_size (s : Nat) : rk m B s ≤ cnt m s := have _ := h; rk_le.2 fun b _ => cnt_le_of_inc (inc_and_l s b)
/-- SUBMODULAR. -/
theorem Mat.rk_sub (s t : Nat) : rk m B (s ||| t) + rk m B (s &&& t) ≤ rk m B s + rk m B t := by
 obtain ⟨I, i1, i2, i3⟩ := h.rk_ind (s := s &&& t)
 obtain ⟨J, j1, j2, j3, j4⟩ := h.extend (u := s ||| t) _ I (Nat.le_refl _) i1 (i2.trans ((inc_and_l s t).trans (inc_or_l s t)))
 have a1 : cnt m (J &&& s) ≤ rk m B s := h.ind_le (j1.mono (inc_and_l J s)) (inc_and_r J s)
 have a2 : cnt m (J &&& t) ≤ rk m B t := h.ind_le (j1.mono (inc_and_l J t)) (inc_and_r J t)
 have a3 := cnt_or_and m (J &&& s) (J &&& t)
 have a4 : cnt m J ≤ cnt m (J &&& s ||| J &&& t) := cnt_le_of_inc fun i hi => by
  have := j3 i hi
  rw [Nat.testBit_or, Bool.or_eq_true] at this
  rw [Nat.testBit_or, Nat.testBit_and, Nat.testBit_and, hi]
  simpa using this
 have a5 : cnt m I ≤ cnt m (J &&& s &&& (J &&& t)) := cnt_le_of_inc fun i hi => by
  have q1 := j2 i hi
  have q2 := i2 i hi
  rw [Nat.testBit_and, Bool.and_eq_true] at q2
  simp only [Nat.testBit_and, q1, q2.1, q2.2]; rfl
 omega
end
theorem oc_tab : ∀ a : Fin 256, oc (a.val : Int) = ((size a.val : Nat) : Int) := of_decide_eq_true (by kernel_rfl)
theorem oc_size {a : Nat} (h : a < 256) : oc (a : Int) = ((size a : Nat) : Int) := oc_tab ⟨a, h⟩
theorem kinds_size_nat {a : Nat} (h : a < 256) : kinds_size (a : Int) = some ((size a : Nat) : Int) := by
 unfold kinds_size
 rw [chk_pos (by omega)]
 simp [bits_OnesCount, oc_size h]
theorem fam_pw {m : Nat} {K : List Nat} (h8 : m ≤ 8) (h1 : ∀ s, s ∈ K → s < 2 ^ m) (h2 : K.Pairwise (· < ·)) : Fam m K := ⟨h8, h1, fun i j hij hj => by
  rw [List.pairwise_iff_getElem] at h2
  have := h2 i j (by omega) hj hij
  simpa [List.getD_eq_getElem?_getD, List.getElem?_eq_getElem hj, List.getElem?_eq_getElem (show i < K.length by omega)] using this⟩
/-- The greatest sets of which this holds. -/
theorem greatest_spec {n : Nat} (h8 : n ≤ 8) {g : Int → Option Bool} {p : Nat → Prop} (hf : ∀ s : Nat, s < 2 ^ n → Gets (g (s : Int)) (fun b => b = true ↔ p s)) (h0 : p 0) : Gets (kinds_greatest n g) (fun r => ∃ K, r = ((n : Int), cs K) ∧ Fam n K ∧ ∀ s, s ∈ K ↔ s < 2 ^ n ∧ p s ∧ ∀ t, t < 2 ^ n → p t → cnt n t ≤ cnt n s) := by
  have h256 := pow_le8 h8
  have hp2 : 0 < 2 ^ n := Nat.pow_pos (by omega)
  unfold kinds_greatest
  refine gChk (by omega) ?_
  simp only [toNat_nat, shl_nat']
  refine gBind (R := fun l => ∃ K, l = cs K ∧ Fam n K ∧ ∀ s, s ∈ K ↔ s < 2 ^ n ∧ p s ∧ ∀ t, t < 2 ^ n → p t → cnt n t ≤ cnt n s) (gFor (2 ^ n) (fun k (x : List Int × Int × Int) => x.2.2 = (k : Int) ∧ ∃ K : List Nat, x.1 = cs K ∧ K.Pairwise (· < ·) ∧ K.length ≤ k ∧ -1 ≤ x.2.1 ∧ (∀ s, s ∈ K ↔ s < k ∧ p s ∧ ((cnt n s : Nat) : Int) = x.2.1) ∧ (∀ s, s < k → p s → ((cnt n s : Nat) : Int) ≤ x.2.1) ∧ (x.2.1 = -1 ∨ ∃ s, s < k ∧ p s ∧ ((cnt n s : Nat) : Int) = x.2.1)) (Nat.zero_le _) ⟨rfl, [], rfl, List.Pairwise.nil, Nat.le_refl _, Int.le_refl _, fun s => ⟨fun h => (by cases h), fun h => absurd h.1 (by omega)⟩, none_all, .inl rfl⟩ ?_) ?_
  · rintro k ⟨_, most, _⟩ hk ⟨rfl, K, rfl, b1, b2, b3, b4, b5, b6⟩
    simp only at b3 b4 b5 b6
    dsimp only
    refine gIte (fun h1 => ?_) fun h1 => ?_
    rotate_left
    · have e : k = 2 ^ n := by omega
      subst e
      refine gSome ⟨K, rfl, fam_pw h8 (fun s hs => ((b4 s).1 hs).1) b1, fun s => ?_⟩
      rw [b4]
      refine ⟨fun ⟨q1, q2, q3⟩ => ⟨q1, q2, fun t ht hp => by have := b5 t ht hp; omega⟩, fun ⟨q1, q2, q3⟩ => ⟨q1, q2, ?_⟩⟩
      have h1 := b5 s q1 q2
      rcases b6 with b6 | ⟨t, t1, t2, t3⟩
      · omega
      · have := q3 t t1 t2; omega
    have hk' : k < 2 ^ n := by omega
    have hz : kinds_size (k : Int) = some ((cnt n k : Nat) : Int) := by rw [kinds_size_nat (by omega), size_of_lt hk' h8]
    have skip : ¬ (p k ∧ most ≤ ((cnt n k : Nat) : Int)) → (k < 2 ^ n ∧ ((k : Int) + 1 = ((k + 1 : Nat) : Int) ∧ ∃ K' : List Nat, cs K = cs K' ∧ K'.Pairwise (· < ·) ∧ K'.length ≤ k + 1 ∧ -1 ≤ most ∧ (∀ s, s ∈ K' ↔ s < k + 1 ∧ p s ∧ ((cnt n s : Nat) : Int) = most) ∧ (∀ s, s < k + 1 → p s → ((cnt n s : Nat) : Int) ≤ most) ∧ (most = -1 ∨ ∃ s, s < k + 1 ∧ p s ∧ ((cnt n s : Nat) : Int) = most))) := fun hn => by
      refine ⟨hk', by simp, K, rfl, b1, by omega, b3, fun s => ?_, fun s hs hp => ?_, b6.imp id fun ⟨s, s1, s2⟩ => ⟨s, by omega, s2⟩⟩
      · rw [b4]
        refine ⟨fun q => ⟨by omega, q.2⟩, fun q => ⟨?_, q.2⟩⟩
        rcases Nat.lt_succ_iff_lt_or_eq.1 q.1 with c | c
        · exact c
        · subst c; exact absurd ⟨q.2.1, by omega⟩ hn
      · rcases Nat.lt_succ_iff_lt_or_eq.1 hs with c | c
        · exact b5 s c hp
        · subst c
          rcases Int.lt_or_le most ((cnt n s : Nat) : Int) with d | d
          · exact absurd ⟨hp, by omega⟩ hn
          · exact d
    refine gBindE hz (gIte (fun h2 => ?_) fun h2 => gSome (skip fun q => h2 (by omega)))
    refine gBind (hf k hk') fun b hb => gIte (fun h3 => gSome (skip fun q => h3 (hb.2 q.1))) fun h3 => ?_
    have hp : p k := hb.1 (by simpa using h3)
    refine gBindE hz (gIte (fun h4 => ?_) fun h4 => ?_)
    · refine gBindE hz (gChk (by simp) (gSome ⟨hk', by simp, [k], rfl, List.pairwise_singleton _ _, by simp only [List.length_cons, List.length_nil]; omega, (show (-1 : Int) ≤ ((cnt n k : Nat) : Int) by omega), fun s => ?_, fun s hs hps => ?_, .inr ⟨k, by omega, hp, rfl⟩⟩))
      · rw [List.mem_singleton]
        refine ⟨fun e => by subst e; exact ⟨by omega, hp, rfl⟩, fun q => ?_⟩
        rcases Nat.lt_succ_iff_lt_or_eq.1 q.1 with c | c
        · have := b5 s c q.2.1
          have := q.2.2
          simp only at this
          omega
        · exact c
      · show ((cnt n s : Nat) : Int) ≤ ((cnt n k : Nat) : Int)
        rcases Nat.lt_succ_iff_lt_or_eq.1 hs with c | c
        · have := b5 s c hps; omega
        · subst c; omega
    · have he : ((cnt n k : Nat) : Int) = most := by omega
      refine gChk (by rw [List.length_append, cs_len]; simp only [List.length_cons, List.length_nil]; omega) (gSome ⟨hk', by simp, K ++ [k], cs_app _ _, List.pairwise_append.2 ⟨b1, List.pairwise_singleton _ _, fun a ha b hb => ?_⟩, by rw [List.length_append]; simp only [List.length_cons, List.length_nil]; omega, b3, fun s => ?_, fun s hs hps => ?_, .inr ⟨k, by omega, hp, he⟩⟩)
      · rw [List.mem_singleton] at hb; subst hb; exact ((b4 a).1 ha).1
      · rw [List.mem_append, List.mem_singleton, b4]
        constructor
        · rintro (q | q)
          · exact ⟨by omega, q.2⟩
          · subst q; exact ⟨by omega, hp, he⟩
        · intro q
          rcases Nat.lt_succ_iff_lt_or_eq.1 q.1 with c | c
          · exact .inl ⟨c, q.2⟩
          · exact .inr c
      · rcases Nat.lt_succ_iff_lt_or_eq.1 hs with c | c
        · exact b5 s c hps
        · subst c; exact Int.le_of_eq he
  · rintro _ ⟨K, rfl, h1, h2⟩
    exact gSome ⟨K, rfl, h1, h2⟩
section
variable {E : List (Int × Int)} {N : Nat}
end
theorem axioms_size_nat {a : Nat} (h : a < 256) : axioms_size (a : Int) = some ((size a : Nat) : Int) := by
 unfold axioms_size
 rw [chk_pos (by omega)]
 simp [bits_OnesCount, oc_size h]
/-- Whether each element of a that b has not may be exchanged. -/
def Exch (B : List Nat) (a b : Nat) : Prop := ∀ x, a.testBit x = true → b.testBit x = false → ∃ y, b.testBit y = true ∧ a.testBit y = false ∧ dif a (2 ^ x) ||| 2 ^ y ∈ B
theorem axioms_exchange_spec {m : Nat} {B : List Nat} (hf : Fam m B) (n : Int) {a b : Nat} (ha : a < 256) (hb : b < 256) : Gets (axioms_exchange n (cs B) a b) (fun r => r = true ↔ Exch B a b) := by
  have hlen := hf.len
  unfold axioms_exchange
  simp only [dif_nat]
  have hda : dif a b < 256 := dif_lt (n := 8) ha
  have hdb : dif b a < 256 := dif_lt (n := 8) hb
  refine gBind (R := fun z => match z with | .inl _ => Exch B a b | .inr r => r = false ∧ ¬ Exch B a b)
    (gLoop (fun o => ∃ t : Nat, o = (t : Int) ∧ t < 256 ∧ Inc t (dif a b) ∧ ∀ x, a.testBit x = true → b.testBit x = false → t.testBit x = false → ∃ y, b.testBit y = true ∧ a.testBit y = false ∧ dif a (2 ^ x) ||| 2 ^ y ∈ B) (fun o => o.toNat) (s0 := ((dif a b : Nat) : Int)) ⟨_, rfl, hda, Inc.refl _, fun x h1 h2 h3 => ?_⟩ ?_) ?_
  · rw [testBit_dif, h1, h2] at h3; cases h3
  · rintro _ ⟨t, rfl, ht, hta, hall⟩
    refine gIte (fun h1 => ?_) fun h1 => gSome fun x h2 h3 => hall x h2 h3 (by have : t = 0 := by omega
                                                                               subst this; simp)
    have hlow := low_spec ht (show t ≠ 0 by omega)
    have hbit := hta _ hlow.bit
    rw [testBit_dif] at hbit
    simp only [Bool.and_eq_true, Bool.not_eq_true'] at hbit
    have hless := hlow.less
    refine gChk (by omega) ?_
    simp only [hlow.neg, hlow.rest, dif_nat]
    refine gBind (R := fun r => r = true ↔ ∃ y, b.testBit y = true ∧ a.testBit y = false ∧ dif a (2 ^ lo1 t) ||| 2 ^ y ∈ B)
      (gLoop (fun o => ∃ u : Nat, o.2 = (u : Int) ∧ u < 256 ∧ Inc u (dif b a) ∧ (o.1 = true → ∃ y, b.testBit y = true ∧ a.testBit y = false ∧ dif a (2 ^ lo1 t) ||| 2 ^ y ∈ B) ∧ (o.1 = false → ∀ y, b.testBit y = true → a.testBit y = false → u.testBit y = false → dif a (2 ^ lo1 t) ||| 2 ^ y ∉ B)) (fun o => o.2.toNat) (s0 := (false, ((dif b a : Nat) : Int)))
        ⟨_, rfl, hdb, Inc.refl _, fun h => by simp at h, fun _ y h1 h2 h3 => ?_⟩ ?_) ?_
    · rw [testBit_dif, h1, h2] at h3; cases h3
    · rintro ⟨ok, _⟩ ⟨u, rfl, hu, huc, hok1, hok2⟩
      simp only at hok1 hok2 ⊢
      refine gIte (fun h2 => ?_) fun h2 => gSome ?_
      · have hlow2 := low_spec hu (show u ≠ 0 by omega)
        have hbit2 := huc _ hlow2.bit
        rw [testBit_dif] at hbit2
        simp only [Bool.and_eq_true, Bool.not_eq_true'] at hbit2
        have hless2 := hlow2.less
        refine gChk (by omega) ?_
        simp only [hlow2.neg, hlow2.rest, or_nat]
        refine gBind (BinarySearch_spec (cs B) _ hf.Rise (by simp; omega)) fun y hy => gChk (by omega) (gSome ⟨⟨_, rfl, by omega, (inc_dif _ _).trans huc, fun h3 => ?_, fun h3 y' h4 h5 h6 => ?_⟩, by simp only [toNat_nat]; omega⟩)
        · exact ⟨_, hbit2.1, hbit2.2, (cs_mem _ _).1 (hy.1 h3)⟩
        · rw [testBit_dif, testBit_pow] at h6
          by_cases e : lo1 u = y'
          · subst e
            intro h7
            have := hy.2 ((cs_mem _ _).2 h7)
            simp only at h3
            rw [h3] at this; cases this
          · have : decide (lo1 u = y') = false := by simp [e]
            rw [this] at h6
            refine hok2 ?_ y' h4 h5 (by simpa using h6)
            cases ok
            · rfl
            · exact absurd rfl h2.2
      · show ok = true ↔ _
        constructor
        · exact hok1
        · rintro ⟨y, h3, h4, h5⟩
          cases hk : ok
          · exfalso
            have hu0 : u = 0 := by
              rcases Nat.eq_zero_or_pos u with q | q
              · exact q
              · exact absurd ⟨by omega, by rw [hk]; simp⟩ h2
            subst hu0
            exact hok2 hk y h3 h4 (by simp) h5
          · rfl
    · intro ok hok
      refine gIte (fun h2 => gSome ⟨rfl, fun h3 => h2 (hok.2 (h3 _ hbit.1 hbit.2))⟩) fun h2 => gChk (by omega) (gSome ⟨⟨_, rfl, by omega, (inc_dif _ _).trans hta, fun x h3 h4 h5 => ?_⟩, by simp only [toNat_nat]; omega⟩)
      rw [testBit_dif, testBit_pow] at h5
      by_cases e : lo1 t = x
      · subst e; exact hok.1 (by simpa using h2)
      · have : decide (lo1 t = x) = false := by simp [e]
        rw [this] at h5
        exact hall x h3 h4 (by simpa using h5)
  · rintro (u | rr) hz
    · exact gSome ⟨fun _ => hz, fun _ => rfl⟩
    · exact gSome ⟨fun h => (by rw [hz.1] at h; cases h), fun h => absurd h hz.2⟩
theorem axioms_Check_spec (n : Int) (l : List Int) (hl : l.length ≤ 9223372036854775807) : Gets (axioms_Check n l) (fun r => (r = 0 ∧ ∃ m B, n = (m : Nat) ∧ l = cs B ∧ Mat m B) ∨ (r ≠ 0 ∧ ¬ ∃ m B, n = (m : Nat) ∧ l = cs B ∧ Mat m B)) := by
 unfold axioms_Check
 refine gBind (sets_Family_spec n l hl) fun y hy => gIte (fun h => gSome (.inr ⟨by omega, ?_⟩)) fun h => ?_
 ·rintro ⟨m, B, rfl, rfl, hM⟩
  rcases hy with ⟨q, _⟩ | ⟨_, q⟩
  ·rcases h with h | h
   ·exact h q
   ·have : B.length = 0 := by simpa using h
    exact hM.ne (List.eq_nil_of_length_eq_zero this)
  ·exact q ⟨m, B, rfl, rfl, hM.toFam⟩
 obtain ⟨m, B, rfl, rfl, hf⟩ : ∃ m B, n = (m : Nat) ∧ l = cs B ∧ Fam m B := by
  rcases hy with ⟨_, q⟩ | ⟨q, _⟩
  ·exact q
  ·omega
 have h256 := pow_le8 hf.m8
 have hlen := hf.len
 have uniq : ∀ {p : Nat → List Nat → Prop}, (∃ m' L', (m : Int) = (m' : Nat) ∧ cs B = cs L' ∧ p m' L') → p m B := by
  rintro p ⟨m', L', h1, h2, h3⟩
  have : m' = m := by omega
  subst this
  rw [← cs_inj h2] at h3; exact h3
 have hp : 0 < B.length := by rw [cs_len] at h; omega
 have lt : ∀ k, k < B.length → B.getD k 0 < 2 ^ m := fun k hk => hf.lt _ (mem_getD.2 ⟨k, hk, rfl⟩)
 have sz : ∀ k, k < B.length → size (B.getD k 0) = cnt m (B.getD k 0) := fun k hk => size_of_lt (lt k hk) hf.m8
 simp only [cs_len, cs_get]
 refine gBind (R := fun z => match z with | .inl _ => ∀ k, k < B.length → cnt m (B.getD k 0) = cnt m (B.getD 0 0) | .inr r => r = 1 ∧ ¬ ∀ k, k < B.length → cnt m (B.getD k 0) = cnt m (B.getD 0 0))
  (gFor B.length (fun k v => v = (k : Int) ∧ ∀ j, j < k → cnt m (B.getD j 0) = cnt m (B.getD 0 0)) (Nat.zero_le _) ⟨rfl, none_all⟩ ?_) ?_
 ·rintro k _ hk ⟨rfl, hb⟩
  refine gIte (fun h1 => gChk (by omega) ?_) fun h1 => gSome fun j hj => hb j (by omega)
  have hk' : k < B.length := by omega
  have l1 := lt k hk'
  have l2 := lt 0 hp
  simp only [toNat_nat]
  rw [axioms_size_nat (by omega), axioms_size_nat (by omega)]
  simp only [Option.bind_some]
  refine gChk (by omega) (gIte (fun h2 => gSome ⟨rfl, fun h3 => h2 ?_⟩) fun h2 => gSome ⟨hk', by simp, step_all hb ?_⟩)
  ·have := h3 k hk'
   rw [← sz k hk', ← sz 0 hp] at this; omega
  ·rw [← sz k hk', ← sz 0 hp]; omega
 ·rintro (u | rr) hz
  ·refine gBind (R := fun z => match z with | .inl _ => ∀ k, k < B.length → ∀ j, j < B.length → Exch B (B.getD k 0) (B.getD j 0) | .inr r => r = 3 ∧ ¬ ∀ k, k < B.length → ∀ j, j < B.length → Exch B (B.getD k 0) (B.getD j 0))
    (gFor B.length (fun k v => v = (k : Int) ∧ ∀ i, i < k → ∀ j, j < B.length → Exch B (B.getD i 0) (B.getD j 0)) (Nat.zero_le _) ⟨rfl, none_all⟩ ?_) ?_
   ·rintro k _ hk ⟨rfl, hb⟩
    refine gIte (fun h1 => gChk (by omega) ?_) fun h1 => gSome fun j hj => hb j (by omega)
    have hk' : k < B.length := by omega
    simp only [toNat_nat]
    refine gBind (R := fun z => match z with | .inl _ => ∀ j, j < B.length → Exch B (B.getD k 0) (B.getD j 0) | .inr r => r = 3 ∧ ¬ ∀ j, j < B.length → Exch B (B.getD k 0) (B.getD j 0))
     (gFor B.length (fun j v => v = (j : Int) ∧ ∀ i, i < j → Exch B (B.getD k 0) (B.getD i 0)) (Nat.zero_le _) ⟨rfl, none_all⟩ ?_) ?_
    ·rintro j _ hj ⟨rfl, hbj⟩
     refine gIte (fun h2 => gChk (by omega) ?_) fun h2 => gSome fun i hi => hbj i (by omega)
     have hj' : j < B.length := by omega
     have l1 := lt k hk'
     have l2 := lt j hj'
     simp only [toNat_nat]
     refine gBind (axioms_exchange_spec hf m (by omega) (by omega)) fun r hr => gIte (fun h3 => gSome ⟨rfl, fun h4 => h3 (hr.2 (h4 j hj'))⟩) fun h3 => gSome ⟨hj', by simp, step_all hbj (hr.1 (by simpa using h3))⟩
    ·rintro (u | rr) hz2
     ·exact gSome ⟨hk', by simp, step_all hb hz2⟩
     ·exact gSome ⟨hz2.1, fun h4 => hz2.2 (h4 k hk')⟩
   ·rintro (u | rr) hz2
    ·refine gSome (.inl ⟨rfl, m, B, rfl, rfl, hf, ?_, fun a ha b hb => ?_, fun a ha b hb x h1 h2 => ?_⟩)
     ·intro e; rw [e] at hp; simp at hp
     ·obtain ⟨i, h1, rfl⟩ := mem_getD.1 ha
      obtain ⟨j, h2, rfl⟩ := mem_getD.1 hb
      rw [hz i h1, hz j h2]
     ·obtain ⟨i, h3, rfl⟩ := mem_getD.1 ha
      obtain ⟨j, h4, rfl⟩ := mem_getD.1 hb
      exact hz2 i h3 j h4 x h1 h2
    ·refine gSome (.inr ⟨by rw [hz2.1]; simp, fun hn => hz2.2 fun k hk j hj => ?_⟩)
     exact (uniq hn).ex _ (mem_getD.2 ⟨k, hk, rfl⟩) _ (mem_getD.2 ⟨j, hj, rfl⟩)
  ·refine gSome (.inr ⟨by rw [hz.1]; simp, fun hn => hz.2 fun k hk => ?_⟩)
   exact (uniq hn).eqc _ (mem_getD.2 ⟨k, hk, rfl⟩) _ (mem_getD.2 ⟨0, hp, rfl⟩)
theorem Mat.check {m : Nat} {B : List Nat} (h : Mat m B) : axioms_Check m (cs B) = some 0 := by
 obtain ⟨r, h1, h2⟩ := axioms_Check_spec m (cs B) (by have := h.len; simp; omega)
 rcases h2 with ⟨rfl, _⟩ | ⟨_, hn⟩
 ·exact h1
 ·exact absurd ⟨m, B, rfl, rfl, h⟩ hn
/-- The ranks of all sets, as a list. -/
def rkL (m : Nat) (B : List Nat) : List Nat := (List.range (2 ^ m)).map (rk m B)
theorem rkL_len (m : Nat) (B : List Nat) : (rkL m B).length = 2 ^ m := by simp [rkL]
theorem rkL_get (m : Nat) (B : List Nat) {s : Nat} (hs : s < 2 ^ m) : (rkL m B).getD s 0 = rk m B s := by
 simp [rkL, List.getD_eq_getElem?_getD, hs]
theorem rk_take_succ (m : Nat) (B : List Nat) (s : Nat) {k : Nat} (hk : k < B.length) : rk m (B.take (k + 1)) s = max (rk m (B.take k) s) (cnt m (s &&& B.getD k 0)) := by
 unfold rk
 rw [List.take_succ_eq_append_getElem hk, List.foldl_append, List.getD_eq_getElem?_getD, List.getElem?_eq_getElem hk]; rfl
theorem set_getD {l : List Int} {k : Nat} (v : Int) (hk : k < l.length) (j : Nat) : (l.set k v).getD j 0 = if j = k then v else l.getD j 0 := by
 simp only [List.getD_eq_getElem?_getD, List.getElem?_set]
 by_cases e : k = j
 ·subst e; simp [hk]
 ·rw [if_neg e, if_neg (fun e' => e e'.symm)]
theorem list_ext_getD {l k : List Int} (h : l.length = k.length) (e : ∀ i, i < l.length → l.getD i 0 = k.getD i 0) : l = k := by
 apply List.ext_getElem h
 intro i h1 h2
 have := e i h1
 simpa [List.getD_eq_getElem?_getD, List.getElem?_eq_getElem h1, List.getElem?_eq_getElem h2] using this
theorem filter_fam {m : Nat} (h8 : m ≤ 8) (p : Nat → Bool) : Fam m ((List.range (2 ^ m)).filter p) := by
  refine ⟨h8, fun s hs => by simpa using (List.mem_filter.1 hs).1, fun i j hij hj => ?_⟩
  have hp : ((List.range (2 ^ m)).filter p).Pairwise (· < ·) := List.Pairwise.filter _ List.pairwise_lt_range
  have hi := Nat.lt_trans hij hj
  have := List.pairwise_iff_getElem.1 hp i j hi hj hij
  rw [List.getD_eq_getElem?_getD, List.getD_eq_getElem?_getD, List.getElem?_eq_getElem hj, List.getElem?_eq_getElem hi]
  exact this
def cpl (m s : Nat) : Nat := dif (2 ^ m - 1) s
theorem full_bit (m i : Nat) : (2 ^ m - 1).testBit i = decide (i < m) := Nat.testBit_two_pow_sub_one m i
theorem cpl_bit (m s i : Nat) : (cpl m s).testBit i = (decide (i < m) && !s.testBit i) := by rw [cpl, testBit_dif, full_bit]
theorem cpl_cnt {m s : Nat} : cnt m (cpl m s) + cnt m s = m := by
 have h1 := cnt_split m (2 ^ m - 1) s
 have h2 : cnt m (2 ^ m - 1 &&& s) = cnt m s := cnt_congr fun i hi => by rw [Nat.testBit_and, full_bit]; simp [hi]
 have h3 : cnt m (2 ^ m - 1) = m := by
  have : ∀ k, k ≤ m → cnt k (2 ^ m - 1) = k := fun k => by
   induction k with
   | zero => intro _; rfl
   | succ k ih => intro hk; simp only [cnt]; rw [ih (by omega), full_bit]; simp [show k < m by omega]
  exact this m (Nat.le_refl _)
 unfold cpl
 omega
theorem swap_lt {m a x y : Nat} (ha : a < 2 ^ m) (hy : y < m) : dif a (2 ^ x) ||| 2 ^ y < 2 ^ m := or_lt (dif_lt ha) (Nat.pow_lt_pow_right (by omega) hy)
/-- The greatest sets of a family that can be grown. -/
theorem aug_mat {n : Nat} (h8 : n ≤ 8) {p : Nat → Prop} {K : List Nat} (hF : Fam n K) (hK : ∀ s, s ∈ K ↔ s < 2 ^ n ∧ p s ∧ ∀ t, t < 2 ^ n → p t → cnt n t ≤ cnt n s) (h0 : p 0)
  (hsub : ∀ s t, Inc s t → p t → p s) (haug : ∀ I J, I < 2 ^ n → J < 2 ^ n → p I → p J → cnt n I < cnt n J → ∃ e, J.testBit e = true ∧ I.testBit e = false ∧ p (I ||| 2 ^ e)) : Mat n K := by
 have best : ∀ d s, s < 2 ^ n → p s → n ≤ cnt n s + d → ∃ b, b ∈ K := by
  intro d
  induction d with
  | zero => exact fun s hs hp hd => ⟨s, (hK s).2 ⟨hs, hp, fun t _ _ => by have := cnt_le n t; omega⟩⟩
  | succ d ih =>
   intro s hs hp hd
   by_cases q : ∀ t, t < 2 ^ n → p t → cnt n t ≤ cnt n s
   ·exact ⟨s, (hK s).2 ⟨hs, hp, q⟩⟩
   ·have : ∃ t, t < 2 ^ n ∧ p t ∧ cnt n s < cnt n t := by
     apply Classical.byContradiction
     intro hno
     exact q fun t h1 h2 => Nat.le_of_not_lt fun h3 => hno ⟨t, h1, h2, h3⟩
    obtain ⟨t, h1, h2, h3⟩ := this
    exact ih t h1 h2 (by omega)
 refine { hF with ne := ?_, eqc := ?_, ex := ?_ }
 ·obtain ⟨b, hb⟩ := best n 0 (Nat.pow_pos (by omega)) h0 (by omega)
  intro e; rw [e] at hb; cases hb
 ·intro a ha b hb
  obtain ⟨a1, a2, a3⟩ := (hK a).1 ha
  obtain ⟨b1, b2, b3⟩ := (hK b).1 hb
  have := a3 b b1 b2; have := b3 a a1 a2; omega
 ·intro a ha b hb x hax hbx
  obtain ⟨a1, a2, a3⟩ := (hK a).1 ha
  obtain ⟨b1, b2, b3⟩ := (hK b).1 hb
  have hc := cnt_dif (m := n) a1 hax
  have hab := a3 b b1 b2
  have hba := b3 a a1 a2
  obtain ⟨e, e1, e2, e3⟩ := haug (dif a (2 ^ x)) b (dif_lt a1) b1 (hsub _ _ (inc_dif _ _) a2) b2 (by omega)
  have hex : e ≠ x := fun q => by subst q; rw [hbx] at e1; cases e1
  have hae : a.testBit e = false := by
   rw [testBit_dif, testBit_pow] at e2
   have : decide (x = e) = false := decide_eq_false fun q => hex q.symm
   simpa [this] using e2
  have hen := bit_lt b1 e1
  refine ⟨e, e1, hae, (hK _).2 ⟨swap_lt a1 hen, e3, fun t h1 h2 => ?_⟩⟩
  rw [cnt_add hen e2]
  have := a3 t h1 h2
  omega
/-- Numbers that have inverses. -/
structure Fld (p : Nat) [NeZero p] : Prop where
 one : (1 : Fin p) ≠ 0
 inv : ∀ a : Fin p, a ≠ 0 → ∃ b, a * b = 1
theorem fld2 : Fld 2 := ⟨by decide, by decide⟩
theorem fld3 : Fld 3 := ⟨by decide, by decide⟩
theorem fld5 : Fld 5 := ⟨by decide, by decide⟩
theorem fld7 : Fld 7 := ⟨by decide, by decide⟩
section
variable {p : Nat} [NeZero p]
theorem Fld.mul_ne (hp : Fld p) {a b : Fin p} (ha : a ≠ 0) (hb : b ≠ 0) : a * b ≠ 0 := by
 obtain ⟨c, hc⟩ := hp.inv a ha
 intro h
 exact hb (by grind)
theorem Fld.zero_of (hp : Fld p) {a b : Fin p} (ha : a ≠ 0) (h : a * b = 0) : b = 0 :=
 Classical.byContradiction fun hb => hp.mul_ne ha hb h
def Sm : Nat → (Nat → Fin p) → Fin p
 | 0, _ => 0
 | n + 1, f => Sm n f + f n
theorem Sm_congr {f g : Nat → Fin p} : ∀ {n : Nat}, (∀ i, i < n → f i = g i) → Sm n f = Sm n g
 | 0, _ => rfl
 | n + 1, h => by rw [Sm, Sm, Sm_congr fun i hi => h i (by omega), h n (by omega)]
theorem Sm_add (f g : Nat → Fin p) : ∀ n, Sm n (fun i => f i + g i) = Sm n f + Sm n g
 | 0 => by simp [Sm]
 | n + 1 => by rw [Sm, Sm, Sm, Sm_add f g n]; grind
theorem Sm_mul (a : Fin p) (f : Nat → Fin p) : ∀ n, Sm n (fun i => a * f i) = a * Sm n f
 | 0 => by simp only [Sm]; grind
 | n + 1 => by rw [Sm, Sm, Sm_mul a f n]; grind
theorem Sm_mulr (a : Fin p) (f : Nat → Fin p) : ∀ n, Sm n (fun i => f i * a) = Sm n f * a
 | 0 => by simp only [Sm]; grind
 | n + 1 => by rw [Sm, Sm, Sm_mulr a f n]; grind
theorem Sm_neg (f : Nat → Fin p) : ∀ n, Sm n (fun i => - f i) = - Sm n f
 | 0 => by simp only [Sm]; grind
 | n + 1 => by rw [Sm, Sm, Sm_neg f n]; grind
theorem Sm_sub (f g : Nat → Fin p) (n : Nat) : Sm n (fun i => f i - g i) = Sm n f - Sm n g := by
 have h1 := Sm_add f (fun i => - g i) n
 rw [Sm_neg] at h1
 rw [Sm_congr (g := fun i => f i + - g i) (fun i _ => by grind), h1]; grind
theorem Sm_zero {f : Nat → Fin p} : ∀ {n : Nat}, (∀ i, i < n → f i = 0) → Sm n f = 0
 | 0, _ => rfl
 | n + 1, h => by rw [Sm, Sm_zero fun i hi => h i (by omega), h n (by omega)]; simp
theorem Sm_one {f : Nat → Fin p} {k : Nat} : ∀ {n : Nat}, k < n → (∀ i, i < n → i ≠ k → f i = 0) → Sm n f = f k
 | 0, h, _ => by omega
 | n + 1, hk, h => by
  rw [Sm]
  rcases Nat.lt_or_ge k n with c | c
  ·rw [Sm_one c fun i hi hne => h i (by omega) hne, h n (by omega) (by omega)]; simp
  ·have e : k = n := by omega
   subst e
   rw [Sm_zero fun i hi => h i (by omega) (by omega)]; simp
theorem Sm_comm (f : Nat → Nat → Fin p) (m : Nat) : ∀ n, Sm n (fun i => Sm m (fun j => f i j)) = Sm m (fun j => Sm n (fun i => f i j))
 | 0 => by simp only [Sm]; exact (Sm_zero fun _ _ => rfl).symm
 | n + 1 => by
  simp only [Sm]
  rw [Sm_comm f m n, ← Sm_add]
theorem Sm_app (f : Nat → Fin p) (n : Nat) : ∀ m, Sm (n + m) f = Sm n f + Sm m (fun i => f (n + i))
 | 0 => by simp [Sm]
 | m + 1 => by rw [← Nat.add_assoc, Sm, Sm_app f n m, Sm]; grind
/-- Past one. -/
def sk (k i : Nat) : Nat := if i < k then i else i + 1
theorem sk_lt {k i n : Nat} (h : i < n) : sk k i < n + 1 := by unfold sk; split <;> omega
theorem sk_ne (k i : Nat) : sk k i ≠ k := by unfold sk; split <;> omega
theorem Sm_sk {k : Nat} (f : Nat → Fin p) : ∀ {n : Nat}, k < n + 1 → Sm (n + 1) f = f k + Sm n (fun i => f (sk k i))
  | 0, h => by have e : k = 0 := by omega
               subst e; simp [Sm]
  | n + 1, h => by
    rcases Nat.lt_or_ge k (n + 1) with c | c
    · have e : sk k n = n + 1 := by unfold sk; rw [if_neg (by omega)]
      rw [Sm, Sm_sk f c]
      conv => rhs; rw [Sm, e]
      grind
    · have e : k = n + 1 := by omega
      subst e
      rw [Sm, Sm_congr (n := n + 1) (g := fun i => f (sk (n + 1) i)) (fun i hi => by unfold sk; rw [if_pos hi])]
      grind
theorem nt1 (c x y b z : Fin p) : c * (x - y * b * z) = c * x - c * (y * b) * z := by grind
theorem nt2 {x y z : Fin p} (h : x - y * z = 0) : -y * z + x = 0 := by grind
theorem nt3 (c x : Fin p) {b z : Fin p} (h : z * b = 1) : c * x = c * (x * b) * z := by grind
theorem nt5 (x : Fin p) : x * 0 = 0 := by grind
theorem nt4 (x y : Fin p) : -x * y + x * y = 0 := by grind
/-- More unknowns than equations. -/
theorem nontriv (hp : Fld p) : ∀ (r k : Nat) (a : Nat → Nat → Fin p), r < k → ∃ c : Nat → Fin p, (∃ i, i < k ∧ c i ≠ 0) ∧ ∀ j, j < r → Sm k (fun i => c i * a i j) = 0
 | 0, k, a, h => ⟨fun _ => 1, ⟨0, h, hp.one⟩, fun j hj => by omega⟩
 | r + 1, 0, a, h => by omega
 | r + 1, k + 1, a, h => by
  rcases Classical.em (∃ i, i < k + 1 ∧ a i r ≠ 0) with ⟨i0, h0, hne⟩ | hall
  ·obtain ⟨b, hb⟩ := hp.inv _ hne
   obtain ⟨c, ⟨i1, hi1, hc1⟩, hc⟩ := nontriv hp r k (fun i j => a (sk i0 i) j - a (sk i0 i) r * b * a i0 j) (by omega)
   -- the rest's numbers, put past i0
   obtain ⟨d, hd0, hd1⟩ : ∃ d : Nat → Fin p, d i0 = - Sm k (fun i => c i * (a (sk i0 i) r * b)) ∧ ∀ i, d (sk i0 i) = c i := by
    refine ⟨fun j => if j = i0 then - Sm k (fun i => c i * (a (sk i0 i) r * b)) else if j < i0 then c j else c (j - 1), by simp, fun i => ?_⟩
    show (if sk i0 i = i0 then _ else _) = _
    rw [if_neg (sk_ne i0 i)]
    unfold sk
    by_cases q : i < i0
    ·rw [if_pos q, if_pos q]
    ·rw [if_neg q, if_neg (by omega)]; rfl
   refine ⟨d, ⟨sk i0 i1, sk_lt hi1, by rw [hd1]; exact hc1⟩, fun j hj => ?_⟩
   have e1 : Sm k (fun i => d (sk i0 i) * a (sk i0 i) j) = Sm k (fun i => c i * a (sk i0 i) j) := Sm_congr fun i _ => by rw [hd1]
   rw [Sm_sk _ h0, hd0, e1]
   rcases Nat.lt_or_ge j r with q | q
   ·have h1 := hc j q
    rw [Sm_congr (g := fun i => c i * a (sk i0 i) j - c i * (a (sk i0 i) r * b) * a i0 j) (fun i _ => nt1 _ _ _ _ _), Sm_sub, Sm_mulr] at h1
    exact nt2 h1
   ·have e : j = r := by omega
    subst e
    have h2 : Sm k (fun i => c i * a (sk i0 i) j) = Sm k (fun i => c i * (a (sk i0 i) j * b)) * a i0 j := by
     rw [← Sm_mulr]
     exact Sm_congr fun i _ => nt3 _ _ hb
    rw [h2]; exact nt4 _ _
  ·obtain ⟨c, h1, h2⟩ := nontriv hp r (k + 1) a (by omega)
   refine ⟨c, h1, fun j hj => ?_⟩
   rcases Nat.lt_or_ge j r with q | q
   ·exact h2 j q
   ·have e : j = r := by omega
    subst e
    exact Sm_zero fun i hi => by
     have : a i j = 0 := Classical.byContradiction fun hne => hall ⟨i, hi, hne⟩
     rw [this]; exact nt5 _
end
/-- An integer modulo p. -/
def cF (p : Nat) [NeZero p] (x : Int) : Fin p := ⟨(x % (p : Int)).toNat, by
 have hp : 0 < p := Nat.pos_of_ne_zero (NeZero.ne p)
 have h1 := Int.emod_nonneg x (show (p : Int) ≠ 0 by omega)
 have h2 := Int.emod_lt_of_pos x (show (0 : Int) < p by omega)
 omega⟩
section
variable {p : Nat} [NeZero p]
theorem pposZ : (0 : Int) < p := by have := Nat.pos_of_ne_zero (NeZero.ne p); omega
theorem cF_val (x : Int) : (((cF p x).val : Nat) : Int) = x % (p : Int) := Int.toNat_of_nonneg (Int.emod_nonneg x (Int.ne_of_gt pposZ))
theorem cF_ext {x y : Int} (h : x % (p : Int) = y % (p : Int)) : cF p x = cF p y := by
 apply Fin.ext
 have h1 := cF_val (p := p) x
 have h2 := cF_val (p := p) y
 omega
theorem cF_add (x y : Int) : cF p (x + y) = cF p x + cF p y := by
 apply Fin.ext
 apply Int.ofNat.inj
 show (((cF p (x + y)).val : Nat) : Int) = (((cF p x + cF p y).val : Nat) : Int)
 rw [cF_val, Fin.val_add, Int.natCast_emod, Int.natCast_add, cF_val, cF_val, ← Int.add_emod]
theorem cF_mul (x y : Int) : cF p (x * y) = cF p x * cF p y := by
 apply Fin.ext
 apply Int.ofNat.inj
 show (((cF p (x * y)).val : Nat) : Int) = (((cF p x * cF p y).val : Nat) : Int)
 rw [cF_val, Fin.val_mul, Int.natCast_emod, Int.natCast_mul, cF_val, cF_val, ← Int.mul_emod]
theorem cF_self : cF p (p : Int) = 0 := by
 apply Fin.ext
 apply Int.ofNat.inj
 show (((cF p p).val : Nat) : Int) = (((0 : Fin p).val : Nat) : Int)
 rw [cF_val, Int.emod_self]; simp
theorem cF_zero : cF p 0 = 0 := by
 apply Fin.ext
 apply Int.ofNat.inj
 show (((cF p 0).val : Nat) : Int) = (((0 : Fin p).val : Nat) : Int)
 rw [cF_val]; simp
theorem cF_sub (x y : Int) : cF p (x - y) = cF p x - cF p y := by
 have h := cF_add (p := p) (x - y) y
 rw [Int.sub_add_cancel] at h
 rw [h]; exact cs1 _ _
where cs1 (a b : Fin p) : a = a + b - b := by grind
theorem cF_tmod {x : Int} (h : 0 ≤ x) : cF p (Int.tmod x (p : Int)) = cF p x := by
 rw [Int.tmod_eq_emod_of_nonneg h]
 exact cF_ext (Int.emod_emod_of_dvd x (Int.dvd_refl _))
theorem tmod_bd {x : Int} (h : 0 ≤ x) : 0 ≤ Int.tmod x (p : Int) ∧ Int.tmod x (p : Int) < p := by
 rw [Int.tmod_eq_emod_of_nonneg h]
 exact ⟨Int.emod_nonneg x (Int.ne_of_gt pposZ), Int.emod_lt_of_pos x pposZ⟩
theorem cF_eq {x y : Int} (hx : 0 ≤ x ∧ x < p) (hy : 0 ≤ y ∧ y < p) : cF p x = cF p y ↔ x = y := by
 refine ⟨fun h => ?_, fun h => by rw [h]⟩
 have h1 := cF_val (p := p) x
 have h2 := cF_val (p := p) y
 rw [h, h2, Int.emod_eq_of_lt hx.1 hx.2, Int.emod_eq_of_lt hy.1 hy.2] at h1
 exact h1.symm
theorem cF_eq0 {x : Int} (hx : 0 ≤ x ∧ x < p) : cF p x = 0 ↔ x = 0 := by
 rw [← cF_zero]; exact cF_eq hx ⟨Int.le_refl _, pposZ⟩
theorem cF_fin (a : Fin p) : cF p (a.val : Int) = a := by
 apply Fin.ext
 apply Int.ofNat.inj
 show (((cF p (a.val : Int)).val : Nat) : Int) = ((a.val : Nat) : Int)
 rw [cF_val, Int.emod_eq_of_lt (by omega) (by have := a.isLt; omega)]
theorem cF_one (h1 : 1 < p) : cF p 1 = 1 := by
 apply Fin.ext
 apply Int.ofNat.inj
 show (((cF p 1).val : Nat) : Int) = (((1 : Fin p).val : Nat) : Int)
 have e : ((1 : Fin p).val) = 1 := by show 1 % p = 1; exact Nat.mod_eq_of_lt h1
 rw [cF_val, e, Int.emod_eq_of_lt (by omega) (by omega)]; rfl
def ent (X : List (List Int)) (i j : Nat) : Int := (X.getD i []).getD j 0
structure MOk (p r n : Nat) (X : List (List Int)) : Prop where
 len : X.length = r
 row : ∀ i, i < r → (X.getD i []).length = n
 bd : ∀ i, i < r → ∀ j, j < n → 0 ≤ ent X i j ∧ ent X i j < p
def MF (p : Nat) [NeZero p] (X : List (List Int)) (i j : Nat) : Fin p := cF p (ent X i j)
theorem ent_set {X : List (List Int)} {i j : Nat} {v : Int} (hi : i < X.length) (hj : j < (X.getD i []).length) (a b : Nat) : ent (X.set i ((X.getD i []).set j v)) a b = if a = i ∧ b = j then v else ent X a b := by
 unfold ent
 have e : ∀ (l : List (List Int)) (k : Nat), l.getD k [] = (l[k]?).getD [] := fun l k => List.getD_eq_getElem?_getD ..
 rw [e (X.set i _) a, List.getElem?_set]
 by_cases c : i = a
 ·subst c
  rw [if_pos rfl, if_pos hi]
  simp only [Option.getD_some, true_and]
  rw [List.getD_eq_getElem?_getD, List.getElem?_set]
  by_cases d : j = b
  ·subst d; rw [if_pos rfl, if_pos hj, if_pos rfl]; rfl
  ·rw [if_neg d, if_neg (Ne.symm d), ← List.getD_eq_getElem?_getD]
 ·rw [if_neg c, if_neg (fun h => c h.1.symm), ← e]
theorem len_set2 (X : List (List Int)) (i j : Nat) (v : Int) (m : Nat) : ((X.set i ((X.getD i []).set j v)).getD m []).length = (X.getD m []).length := by
 rw [List.getD_eq_getElem?_getD, List.getElem?_set]
 split
 ·rename_i e
  subst e
  split
  ·simp
  ·rename_i h; rw [List.getD_eq_getElem?_getD, List.getElem?_eq_none (by omega)]
 ·rw [← List.getD_eq_getElem?_getD]
theorem MOk.put {r n : Nat} {X : List (List Int)} (h : MOk p r n X) {i j : Nat} {v : Int} (hi : i < r) (hj : j < n) (hv : 0 ≤ v ∧ v < p) : MOk p r n (X.set i ((X.getD i []).set j v)) := by
 refine ⟨by rw [List.length_set]; exact h.len, fun a ha => ?_, fun a ha b hb => ?_⟩
 ·rw [len_set2]; exact h.row a ha
 ·rw [ent_set (by rw [h.len]; exact hi) (by rw [h.row i hi]; exact hj)]
  split
  ·exact hv
  ·exact h.bd a ha b hb
theorem MF_put {r n : Nat} {X : List (List Int)} (h : MOk p r n X) {i j : Nat} {v : Int} (hi : i < r) (hj : j < n) (a b : Nat) : MF p (X.set i ((X.getD i []).set j v)) a b = if a = i ∧ b = j then cF p v else MF p X a b := by
 unfold MF
 rw [ent_set (by rw [h.len]; exact hi) (by rw [h.row i hi]; exact hj)]
 split <;> rfl
def sw (a b i : Nat) : Nat := if i = b then a else if i = a then b else i
theorem sw_lt {a b i r : Nat} (ha : a < r) (hb : b < r) (hi : i < r) : sw a b i < r := by unfold sw; split <;> (try split) <;> omega
theorem sw_sw (a b i : Nat) : sw a b (sw a b i) = i := by unfold sw; split <;> (try split) <;> (try split) <;> (try split) <;> omega
theorem getD_swap {X : List (List Int)} {a b : Nat} (ha : a < X.length) (hb : b < X.length) (i : Nat) : ((X.set a (X.getD b [])).set b (X.getD a [])).getD i [] = X.getD (sw a b i) [] := by
 have e : ∀ (l : List (List Int)) (k : Nat), l.getD k [] = (l[k]?).getD [] := fun l k => List.getD_eq_getElem?_getD ..
 rw [e (List.set _ _ _) i, List.getElem?_set, List.length_set, List.getElem?_set]
 unfold sw
 by_cases c : b = i
 ·subst c; rw [if_pos rfl, if_pos hb, if_pos rfl]; rfl
 ·rw [if_neg c, if_neg (Ne.symm c)]
  by_cases d : a = i
  ·subst d; rw [if_pos rfl, if_pos ha, if_pos rfl]; rfl
  ·rw [if_neg d, if_neg (Ne.symm d), ← e]
theorem MOk.swap {r n : Nat} {X : List (List Int)} (h : MOk p r n X) {a b : Nat} (ha : a < r) (hb : b < r) : MOk p r n ((X.set a (X.getD b [])).set b (X.getD a [])) := by
 have hla : a < X.length := by rw [h.len]; exact ha
 have hlb : b < X.length := by rw [h.len]; exact hb
 refine ⟨by simp [h.len], fun i hi => ?_, fun i hi j hj => ?_⟩
 ·rw [getD_swap hla hlb]; exact h.row _ (sw_lt ha hb hi)
 ·unfold ent; rw [getD_swap hla hlb]; exact h.bd _ (sw_lt ha hb hi) j hj
theorem MF_swap {r n : Nat} {X : List (List Int)} (h : MOk p r n X) {a b : Nat} (ha : a < r) (hb : b < r) (i j : Nat) : MF p ((X.set a (X.getD b [])).set b (X.getD a [])) i j = MF p X (sw a b i) j := by
 unfold MF ent
 rw [getD_swap (by rw [h.len]; exact ha) (by rw [h.len]; exact hb)]
def Ker (r n : Nat) (M : Nat → Nat → Fin p) (v : Nat → Fin p) : Prop := ∀ i, i < r → Sm n (fun j => M i j * v j) = 0
theorem ker_sw {r n a b : Nat} {M M' : Nat → Nat → Fin p} (ha : a < r) (hb : b < r) (h : ∀ i, i < r → ∀ j, j < n → M' i j = M (sw a b i) j) (v : Nat → Fin p) : Ker r n M' v ↔ Ker r n M v := by
 constructor
 ·intro hk i hi
  have := hk _ (sw_lt ha hb hi)
  rw [Sm_congr fun j hj => by rw [h _ (sw_lt ha hb hi) j hj, sw_sw]] at this
  exact this
 ·intro hk i hi
  have := hk _ (sw_lt ha hb hi)
  rw [Sm_congr fun j hj => by rw [h i hi j hj]]
  exact this
/-- Multiples of one row taken from others. -/
theorem ker_sub {r n k : Nat} {M M' : Nat → Nat → Fin p} {t : Nat → Fin p} (hk : k < r) (ht : t k = 0) (h : ∀ i, i < r → ∀ j, j < n → M' i j = M i j - t i * M k j) (v : Nat → Fin p) : Ker r n M' v ↔ Ker r n M v := by
 have e : ∀ i, i < r → Sm n (fun j => M' i j * v j) = Sm n (fun j => M i j * v j) - t i * Sm n (fun j => M k j * v j) := fun i hi => by
  rw [← Sm_mul, ← Sm_sub]
  exact Sm_congr fun j hj => by rw [h i hi j hj]; exact e1 _ _ _ _
 constructor
 ·intro hv
  have hk0 : Sm n (fun j => M k j * v j) = 0 := by
   have := e k hk
   rw [ht, hv k hk] at this
   exact e2 this
  intro i hi
  have := e i hi
  rw [hk0, hv i hi] at this
  exact e3 this
 ·intro hv i hi
  rw [e i hi, hv i hi, hv k hk]; exact e4 _
where
 e1 (a b c d : Fin p) : (a - b * c) * d = a * d - b * (c * d) := by grind
 e2 {a : Fin p} (h : 0 = a - 0 * a) : a = 0 := by grind
 e3 {a b : Fin p} (h : 0 = a - b * 0) : a = 0 := by grind
 e4 (a : Fin p) : 0 - a * 0 = 0 := by grind
/-- With all on and below the diagonal as it should be nothing else is nought with all rows. -/
theorem ker_ut (hp : Fld p) {r n : Nat} {M : Nat → Nat → Fin p} (hr : n ≤ r) (hd : ∀ i, i < n → M i i ≠ 0) (hu : ∀ i, i < n → ∀ j, j < i → M i j = 0) {v : Nat → Fin p} (hv : Ker r n M v) : ∀ j, j < n → v j = 0 := by
 have key : ∀ d j, j < n → n - j ≤ d → v j = 0 := by
  intro d
  induction d with
  | zero => intro j hj h; omega
  | succ d ih =>
   intro j hj h
   have h1 := hv j (by omega)
   rw [Sm_one (k := j) hj fun i hi hne => ?_] at h1
   ·exact hp.zero_of (hd j hj) h1
   ·rcases Nat.lt_or_ge i j with c | c
    ·rw [hu j hj i c]; exact z1 _
    ·rw [ih i hi (by omega)]; exact z2 _
 exact fun j hj => key n j hj (by omega)
where
 z1 (a : Fin p) : 0 * a = 0 := by grind
 z2 (a : Fin p) : a * 0 = 0 := by grind
end
section
variable {p : Nat} [NeZero p]
structure El (r n : Nat) (M0 M : Nat → Nat → Fin p) (rk c : Nat) : Prop where
 rkc : rk ≤ c
 rkr : rk ≤ r
 cn : c ≤ n
 low : ∀ i, rk ≤ i → i < r → ∀ j, j < c → M i j = 0
 ker : ∀ v, Ker r n M v ↔ Ker r n M0 v
 two : (rk = c ∧ (∀ i, i < c → M i i ≠ 0) ∧ ∀ i, i < c → ∀ j, j < i → M i j = 0) ∨ (rk < c ∧ ∃ v, Ker r n M0 v ∧ ∃ j, j < n ∧ v j ≠ 0)
variable {r n rk c : Nat} {M0 M : Nat → Nat → Fin p}
theorem El.start (r n : Nat) (M0 : Nat → Nat → Fin p) : El r n M0 M0 0 0 :=
 ⟨Nat.le_refl _, Nat.zero_le _, Nat.zero_le _, fun i _ _ j hj => by omega, fun v => Iff.rfl, .inl ⟨rfl, fun i hi => by omega, fun i hi => by omega⟩⟩
theorem z0 (a : Fin p) : 0 * a = 0 := by grind
theorem z1 (a : Fin p) : a * 0 = 0 := by grind
theorem mulc (a b : Fin p) : a * b = b * a := by grind
/-- More columns than rows: something else is nought with all rows. -/
theorem ker_ex (hp : Fld p) (h : r < n) (M : Nat → Nat → Fin p) : ∃ v, Ker r n M v ∧ ∃ j, j < n ∧ v j ≠ 0 := by
 obtain ⟨v, ⟨j, hj, hne⟩, hv⟩ := nontriv hp r n (fun i j => M j i) h
 refine ⟨v, fun i hi => ?_, j, hj, hne⟩
 rw [← hv i hi]
 exact Sm_congr fun k _ => mulc _ _
theorem El.skip (hp : Fld p) (h : El r n M0 M rk c) (hc : c < n) (hz : ∀ i, rk ≤ i → i < r → M i c = 0) : El r n M0 M rk (c + 1) := by
 have hlow : ∀ i, rk ≤ i → i < r → ∀ j, j < c + 1 → M i j = 0 := fun i h1 h2 j hj => by
  rcases Nat.lt_succ_iff_lt_or_eq.1 hj with q | q
  ·exact h.low i h1 h2 j q
  ·subst q; exact hz i h1 h2
 refine ⟨by have := h.rkc; omega, h.rkr, by omega, hlow, h.ker, .inr ⟨by have := h.rkc; omega, ?_⟩⟩
 rcases h.two with ⟨e, _, _⟩ | ⟨_, q⟩
 ·obtain ⟨v, ⟨j, hj, hne⟩, hv⟩ := nontriv hp c (c + 1) (fun i j => M j i) (by omega)
  refine ⟨fun j => if j < c + 1 then v j else 0, (h.ker _).1 fun i hi => ?_, j, by omega, by simpa [hj] using hne⟩
  rcases Nat.lt_or_ge i c with q | q
  ·have e2 : n = (c + 1) + (n - (c + 1)) := by omega
   rw [e2, Sm_app, Sm_zero (n := n - (c + 1)) fun k _ => ?_, Sm_congr (g := fun k => v k * M i k) fun k hk => ?_, hv i q]
   ·simp
   ·simp only [if_pos hk]; exact mulc _ _
   ·simp only [if_neg (show ¬ c + 1 + k < c + 1 by omega)]; exact z1 _
  ·refine Sm_zero fun k hk => ?_
   by_cases ck : k < c + 1
   ·rw [hlow i (by omega) hi k ck]; exact z0 _
   ·simp only [if_neg ck]; exact z1 _
 ·exact q
theorem El.piv (h : El r n M0 M rk c) (hc : c < n) {k : Nat} (hk : rk ≤ k) (hkr : k < r) {M1 M2 : Nat → Nat → Fin p} {t : Nat → Fin p} (h1 : ∀ i, i < r → ∀ j, j < n → M1 i j = M (sw rk k i) j) (hne : M1 rk c ≠ 0)
  (ht : ∀ i, i ≤ rk → t i = 0) (h2 : ∀ i, i < r → ∀ j, j < n → M2 i j = M1 i j - t i * M1 rk j) (hz : ∀ i, rk < i → i < r → M2 i c = 0) : El r n M0 M2 (rk + 1) (c + 1) := by
 have hrk : rk < r := by omega
 have swhi : ∀ i, rk ≤ i → rk ≤ sw rk k i := fun i hi => by unfold sw; split <;> (try split) <;> omega
 have swlo : ∀ i, i < rk → sw rk k i = i := fun i hi => by unfold sw; split <;> (try split) <;> omega
 have low1 : ∀ i, rk ≤ i → i < r → ∀ j, j < c → M1 i j = 0 := fun i a b j hj => by
  rw [h1 i b j (by omega)]; exact h.low _ (swhi i a) (sw_lt hrk hkr b) j hj
 refine ⟨by have := h.rkc; omega, by omega, by omega, fun i a b j hj => ?_, fun v => ?_, ?_⟩
 ·rcases Nat.lt_succ_iff_lt_or_eq.1 hj with q | q
  ·rw [h2 i b j (by omega), low1 i (by omega) b j q, low1 rk (Nat.le_refl _) hrk j q]; exact e1 _
  ·subst q; exact hz i (by omega) b
 ·rw [ker_sub hrk (ht rk (Nat.le_refl _)) h2, ker_sw hrk hkr h1]; exact h.ker v
 ·rcases h.two with ⟨e, d1, d2⟩ | ⟨q1, q2⟩
  ·have same : ∀ i, i < rk → ∀ j, j < n → M2 i j = M i j := fun i hi j hj => by
    rw [h2 i (by omega) j hj, ht i (by omega), h1 i (by omega) j hj, swlo i hi]; exact e2 _ _
   have top : ∀ j, j < n → M2 rk j = M1 rk j := fun j hj => by rw [h2 rk hrk j hj, ht rk (Nat.le_refl _)]; exact e2 _ _
   refine .inl ⟨by omega, fun i hi => ?_, fun i hi j hj => ?_⟩
   ·rcases Nat.lt_succ_iff_lt_or_eq.1 hi with q | q
    ·rw [same i (by omega) i (by omega)]; exact d1 i q
    ·have a : i = rk := by omega
     have g : M2 i i = M2 rk c := by rw [← a, ← q]
     rw [g, top c hc]; exact hne
   ·rcases Nat.lt_succ_iff_lt_or_eq.1 hi with q | q
    ·rw [same i (by omega) j (by omega)]; exact d2 i q j hj
    ·have a : i = rk := by omega
     rw [a, top j (by omega)]; exact low1 rk (Nat.le_refl _) hrk j (by omega)
  ·exact .inr ⟨by omega, q2⟩
where
 e1 (a : Fin p) : 0 - a * 0 = 0 := by grind
 e2 (a b : Fin p) : a - 0 * b = a := by grind
theorem El.done (hp : Fld p) (h : El r n M0 M rk c) (he : c = n ∨ rk = r) : rk = n ↔ ∀ v, Ker r n M0 v → ∀ j, j < n → v j = 0 := by
 have h1 := h.rkc
 have h2 := h.cn
 have h3 := h.rkr
 constructor
 ·intro e v hv
  rcases h.two with ⟨e1, d1, d2⟩ | ⟨q, _⟩
  ·have ec : c = n := by omega
   subst ec
   exact ker_ut hp (by omega) d1 d2 ((h.ker v).2 hv)
  ·omega
 ·intro hv
  rcases h.two with ⟨e1, d1, d2⟩ | ⟨_, v, v1, j, v2, v3⟩
  ·rcases Nat.lt_or_ge rk n with q | q
   ·obtain ⟨v, v1, j, v2, v3⟩ := ker_ex hp (show r < n by omega) M0
    exact absurd (hv v v1 j v2) v3
   ·omega
  ·exact absurd (hv v v1 j v2) v3
end
/-- The elements of a set below m, rising. -/
def elm (m s : Nat) : List Nat := (List.range m).filter fun i => s.testBit i
theorem elm_succ (m s : Nat) : elm (m + 1) s = if s.testBit m = true then elm m s ++ [m] else elm m s := by
 unfold elm
 rw [List.range_succ, List.filter_append]
 by_cases h : s.testBit m = true
 ·simp [h]
 ·simp [h]
theorem elm_len (m s : Nat) : (elm m s).length = cnt m s := by
 induction m with
 | zero => rfl
 | succ m ih =>
  rw [elm_succ, cnt]
  by_cases h : s.testBit m = true
  ·rw [if_pos h, if_pos h, List.length_append, ih]; rfl
  ·rw [if_neg h, if_neg h, ih]; rfl
section
variable {p : Nat} [NeZero p]
/-- A sum over a set's elements. -/
theorem Sm_elm (s : Nat) (f : Nat → Fin p) : ∀ m, Sm (cnt m s) (fun k => f ((elm m s).getD k 0)) = Sm m (fun j => if s.testBit j = true then f j else 0)
 | 0 => rfl
 | m + 1 => by
  rw [Sm, ← Sm_elm s f m, cnt, elm_succ]
  by_cases h : s.testBit m = true
  ·simp only [if_pos h]
   rw [Sm]
   have e1 : Sm (cnt m s) (fun k => f ((elm m s ++ [m]).getD k 0)) = Sm (cnt m s) (fun k => f ((elm m s).getD k 0)) := Sm_congr fun k hk => by
    rw [List.getD_eq_getElem?_getD, List.getElem?_append_left (by rw [elm_len]; exact hk), ← List.getD_eq_getElem?_getD]
   have e2 : (elm m s ++ [m]).getD (cnt m s) 0 = m := by
    rw [List.getD_eq_getElem?_getD, List.getElem?_append_right (by rw [elm_len]; exact Nat.le_refl _), elm_len, Nat.sub_self]; rfl
   rw [e1, e2]
  ·simp only [if_neg h, Nat.add_zero]
   grind
theorem mul_bd7 {a b : Int} (h1 : 0 ≤ a) (h2 : a ≤ 7) (h3 : 0 ≤ b) (h4 : b ≤ 7) : 0 ≤ a * b ∧ a * b ≤ 49 := by
 refine ⟨Int.mul_nonneg h1 h3, ?_⟩
 have := Int.mul_le_mul h2 h4 h3 (by omega : (0 : Int) ≤ 7)
 omega
/-- What is one when multiplied. -/
theorem inverse_spec (hp : Fld p) (h7 : p ≤ 7) {a : Int} (ha : 0 ≤ a ∧ a < p) : Gets (kinds_inverse a p) (fun f => (0 ≤ f ∧ f < p) ∧ (cF p a ≠ 0 → cF p f * cF p a = 1)) := by
 have hp0 : 0 < p := Nat.pos_of_ne_zero (NeZero.ne p)
 have hp1 : 1 < p := by
  rcases Nat.lt_or_ge 1 p with c | c
  ·exact c
  ·exfalso
   have e : p = 1 := by omega
   subst e
   exact hp.one (by apply Fin.ext; omega)
 have one : ∀ b : Nat, b < p → (Int.tmod (a * b) p = 1 ↔ cF p (b : Int) * cF p a = 1) := fun b hb => by
  have hm := mul_bd7 ha.1 (by omega) (show (0 : Int) ≤ b by omega) (by omega)
  have e : cF p (Int.tmod (a * b) p) = cF p (b : Int) * cF p a := by
   rw [cF_tmod hm.1, cF_mul]; exact mulc _ _
  rw [← e, ← cF_one hp1, cF_eq (tmod_bd hm.1) ⟨by omega, by omega⟩]
 unfold kinds_inverse
 refine gBind (R := fun z : Unit ⊕ Int => match z with | .inl _ => cF p a = 0 | .inr f => (0 ≤ f ∧ f < p) ∧ (cF p a ≠ 0 → cF p f * cF p a = 1)) (gFor p (fun k (v : Int) => v = (k : Int) ∧ ∀ b : Nat, b < k → Int.tmod (a * b) p ≠ 1) (Nat.zero_le _) ⟨rfl, fun b hb => by omega⟩ ?_) ?_
 ·rintro k v hk ⟨rfl, hb⟩
  refine gIte (fun h1 => ?_) fun h1 => ?_
  ·have hm := mul_bd7 ha.1 (by omega) (show (0 : Int) ≤ k by omega) (by omega)
   refine gChk ⟨by omega, by omega⟩ (gIte (fun h2 => ?_) fun h2 => ?_)
   ·exact gSome ⟨by omega, fun _ => (one k (by omega)).1 h2⟩
   ·refine gSome ⟨by omega, by simp, fun b hb' => ?_⟩
    rcases Nat.lt_succ_iff_lt_or_eq.1 hb' with c | c
    ·exact hb b c
    ·subst c; exact h2
  ·refine gSome ?_
   refine Classical.byContradiction fun hne => ?_
   obtain ⟨b, hb2⟩ := hp.inv _ hne
   refine hb b.val (by have := b.isLt; omega) ((one b.val b.isLt).2 ?_)
   rw [cF_fin, mulc]; exact hb2
 ·rintro (_ | f) hz
  ·exact gSome ⟨⟨by omega, by omega⟩, fun h => absurd hz h⟩
  ·exact gSome hz
/-- The first row from rk on that is not nought in column c. -/
theorem search_spec {r n c rk : Nat} {Y : List (List Int)} (hY : MOk p r n Y) (hc : c < n) (hrk : rk ≤ r) :
  ∀ f : Int → Option (Int ⊕ Int), (∀ v : Int, f v = (chk (((v < (Y.length : Int)) → (0 ≤ v ∧ v < Y.length)) ∧ ((v < (Y.length : Int)) → (0 ≤ (c : Int) ∧ (c : Int) < ((Y.getD v.toNat []).length)))) <|
   if (v < (Y.length : Int) ∧ (Y.getD v.toNat []).getD (c : Int).toNat 0 = 0) then chk ((-9223372036854775808 ≤ (v + 1 : Int) ∧ (v + 1 : Int) ≤ 9223372036854775807)) <| some (.inl (v + 1)) else some (.inr v))) → r ≤ 6 →
  Gets (loopM f (rk : Int)) (fun v => ∃ k : Nat, v = (k : Int) ∧ rk ≤ k ∧ k ≤ r ∧ (∀ i, rk ≤ i → i < k → MF p Y i c = 0) ∧ (k < r → MF p Y k c ≠ 0)) := by
 intro f hf hr6
 have hl := hY.len
 refine gFor r (fun k (v : Int) => v = (k : Int) ∧ rk ≤ k ∧ ∀ i, rk ≤ i → i < k → MF p Y i c = 0) hrk ⟨rfl, Nat.le_refl _, fun i h1 h2 => by omega⟩ ?_
 rintro k v hk ⟨rfl, h1, h2⟩
 rw [hf]
 have hrow : k < r → (Y.getD k []).length = n := fun h => hY.row k h
 refine gChk ⟨fun h => ⟨by omega, h⟩, fun h => ⟨by omega, ?_⟩⟩ ?_
 ·rw [toNat_nat, hrow (by omega)]; omega
 refine gIte (fun h3 => ?_) fun h3 => ?_
 ·have hkr : k < r := by omega
  refine gChk ⟨by omega, by omega⟩ (gSome ⟨hkr, by simp, by omega, fun i a b => ?_⟩)
  rcases Nat.lt_succ_iff_lt_or_eq.1 b with q | q
  ·exact h2 i a q
  ·subst q
   refine (cF_eq0 (hY.bd i hkr c hc)).2 ?_
   exact h3.2
 ·refine gSome ⟨k, rfl, h1, hk, h2, fun hkr => ?_⟩
  intro hz
  exact h3 ⟨by omega, (cF_eq0 (hY.bd k hkr c hc)).1 hz⟩
/-- A row's numbers from column c on, without a multiple of another row's. -/
theorem rowop_spec {r n c rk i : Nat} {Y : List (List Int)} {T : Int} (h7 : p ≤ 7) (hn8 : n ≤ 8) (hr6 : r ≤ 6) (hY : MOk p r n Y) (hc : c ≤ n) (hrk : rk < r) (hi : i < r) (hne : i ≠ rk) (hT : 0 ≤ T ∧ T < p) :
  ∀ f : List (List Int) × Int → Option ((List (List Int) × Int) ⊕ List (List Int)), (∀ v v16, f (v, v16) = (chk ((0 ≤ (i : Int) ∧ (i : Int) < v.length)) <|
   if v16 < ((v.getD (i : Int).toNat []).length : Int) then
   chk ((0 ≤ (i : Int) ∧ (i : Int) < v.length) ∧ (0 ≤ v16 ∧ v16 < ((v.getD (i : Int).toNat []).length)) ∧ (-9223372036854775808 ≤ ((p : Int) - T : Int) ∧ ((p : Int) - T : Int) ≤ 9223372036854775807) ∧ (0 ≤ (rk : Int) ∧ (rk : Int) < v.length) ∧ (0 ≤ v16 ∧ v16 < ((v.getD (rk : Int).toNat []).length)) ∧ (-9223372036854775808 ≤ (((p : Int) - T) * ((v.getD (rk : Int).toNat []).getD v16.toNat 0) : Int) ∧ (((p : Int) - T) * ((v.getD (rk : Int).toNat []).getD v16.toNat 0) : Int) ≤ 9223372036854775807) ∧ (-9223372036854775808 ≤ (((v.getD (i : Int).toNat []).getD v16.toNat 0) + (((p : Int) - T) * ((v.getD (rk : Int).toNat []).getD v16.toNat 0)) : Int) ∧ (((v.getD (i : Int).toNat []).getD v16.toNat 0) + (((p : Int) - T) * ((v.getD (rk : Int).toNat []).getD v16.toNat 0)) : Int) ≤ 9223372036854775807) ∧ (p : Int) ≠ 0) <|
   chk ((-9223372036854775808 ≤ (v16 + 1 : Int) ∧ (v16 + 1 : Int) ≤ 9223372036854775807)) <|
   some (.inl (v.set (i : Int).toNat ((v.getD (i : Int).toNat []).set v16.toNat (Int.tmod (((v.getD (i : Int).toNat []).getD v16.toNat 0) + (((p : Int) - T) * ((v.getD (rk : Int).toNat []).getD v16.toNat 0))) p)), v16 + 1))
   else some (.inr v))) →
  Gets (loopM f (Y, (c : Int))) (fun Z => MOk p r n Z ∧ ∀ a, a < r → ∀ b, b < n → MF p Z a b = if a = i ∧ c ≤ b then MF p Y a b - cF p T * MF p Y rk b else MF p Y a b) := by
 intro f hf
 refine gFor n (fun k (x : List (List Int) × Int) => x.2 = (k : Int) ∧ c ≤ k ∧ MOk p r n x.1 ∧ ∀ a, a < r → ∀ b, b < n → MF p x.1 a b = if a = i ∧ c ≤ b ∧ b < k then MF p Y a b - cF p T * MF p Y rk b else MF p Y a b) hc ⟨rfl, Nat.le_refl _, hY, fun a ha b hb => by rw [if_neg (by omega)]⟩ ?_
 rintro k ⟨v, _⟩ hk ⟨rfl, h1, h2, h3⟩
 dsimp only at h2 h3
 rw [hf]
 simp only [toNat_nat]
 have hl := h2.len
 have ei : ∀ j, (v.getD i []).getD j 0 = ent v i j := fun _ => rfl
 have er : ∀ j, (v.getD rk []).getD j 0 = ent v rk j := fun _ => rfl
 simp only [hl, h2.row i hi, h2.row rk hrk, ei, er]
 refine gChk ⟨by omega, by omega⟩ (gIte (fun h4 => ?_) fun h4 => ?_)
 ·have hkn : k < n := by omega
  have bi := h2.bd i hi k hkn
  have br := h2.bd rk hrk k hkn
  have m1 := mul_bd7 (a := (p : Int) - T) (by omega) (by omega) br.1 (by omega)
  refine gChk ⟨⟨by omega, by omega⟩, ⟨by omega, by omega⟩, ⟨by omega, by omega⟩, ⟨by omega, by omega⟩, ⟨by omega, by omega⟩, ⟨by omega, by omega⟩, ⟨by omega, by omega⟩, by omega⟩ ?_
  have hpos : 0 ≤ ent v i k + ((p : Int) - T) * ent v rk k := by omega
  refine gChk ⟨by omega, by omega⟩ (gSome ⟨hkn, by simp, by omega, h2.put hi hkn (tmod_bd hpos), fun a ha b hb => ?_⟩)
  rw [MF_put h2 hi hkn]
  by_cases q : a = i ∧ b = k
  ·obtain ⟨rfl, rfl⟩ := q
   rw [if_pos ⟨rfl, rfl⟩, if_pos ⟨rfl, h1, by omega⟩, cF_tmod hpos, cF_add, cF_mul, cF_sub, cF_self]
   have e1 : cF p (ent v a b) = MF p Y a b := by have := h3 a ha b hb; rw [if_neg (by omega)] at this; exact this
   have e2 : cF p (ent v rk b) = MF p Y rk b := by have := h3 rk hrk b hb; rw [if_neg (fun h => hne h.1.symm)] at this; exact this
   rw [e1, e2]; exact ro1 _ _ _
  ·rw [if_neg q, h3 a ha b hb]
   by_cases q2 : a = i ∧ c ≤ b ∧ b < k
   ·rw [if_pos q2, if_pos ⟨q2.1, q2.2.1, by omega⟩]
   ·rw [if_neg q2, if_neg (fun h => by
     rcases Nat.lt_succ_iff_lt_or_eq.1 h.2.2 with d | d
     ·exact q2 ⟨h.1, h.2.1, d⟩
     ·exact q ⟨h.1, d⟩)]
 ·refine gSome ⟨h2, fun a ha b hb => ?_⟩
  rw [h3 a ha b hb]
  by_cases q : a = i ∧ c ≤ b
  ·rw [if_pos q, if_pos ⟨q.1, q.2, by omega⟩]
  ·rw [if_neg q, if_neg (fun h => q ⟨h.1, h.2.1⟩)]
where
 ro1 (a b c : Fin p) : a + (0 - b) * c = a - b * c := by grind
/-- The columns of a set alone. -/
def cols (n s : Nat) (X : List (List Int)) (r : Nat) : List (List Int) := (List.range r).map fun i => (elm n s).map fun j => ent X i j
theorem cols_get {n s r : Nat} {X : List (List Int)} {i : Nat} (hi : i < r) : (cols n s X r).getD i [] = (elm n s).map fun j => ent X i j := by
 unfold cols
 rw [List.getD_eq_getElem?_getD, List.getElem?_map, List.getElem?_range hi]; rfl
theorem cols_ent {n s r : Nat} {X : List (List Int)} {i k : Nat} (hi : i < r) (hk : k < cnt n s) : ent (cols n s X r) i k = ent X i ((elm n s).getD k 0) := by
 unfold ent
 rw [cols_get hi]
 have hl : k < (elm n s).length := by rw [elm_len]; exact hk
 have e : (elm n s).getD k 0 = (elm n s)[k] := by rw [List.getD_eq_getElem?_getD, List.getElem?_eq_getElem hl]; rfl
 rw [e, List.getD_eq_getElem?_getD, List.getElem?_map, List.getElem?_eq_getElem hl]; rfl
theorem elm_lt {n s k : Nat} (hk : k < cnt n s) : (elm n s).getD k 0 < n := by
 have hl : k < (elm n s).length := by rw [elm_len]; exact hk
 rw [List.getD_eq_getElem?_getD, List.getElem?_eq_getElem hl]
 have := List.getElem_mem hl
 unfold elm at this
 exact List.mem_range.1 (List.mem_filter.1 this).1
theorem cols_ok {n s r : Nat} {X : List (List Int)} (hX : MOk p r n X) : MOk p r (cnt n s) (cols n s X r) :=
 ⟨by simp [cols], fun i hi => by rw [cols_get hi, List.length_map, elm_len], fun i hi k hk => by rw [cols_ent hi hk]; exact hX.bd i hi _ (elm_lt hk)⟩
set_option maxRecDepth 4000 in
/-- Elimination as the code does it: as many rows as columns just if nothing but nought is nought with all rows. -/
theorem rankOf_elim (hp : Fld p) (h7 : p ≤ 7) {r n : Nat} {X : List (List Int)} (hX : MOk p r n X) (hr6 : r ≤ 6) (hn8 : n ≤ 8) {s : Nat} (hs : s < 2 ^ n) (m : Int) :
    Gets (kinds_rankOf p m X s) (fun k => k = ((cnt n s : Nat) : Int) ↔ ∀ v, Ker r (cnt n s) (MF p (cols n s X r)) v → ∀ j, j < cnt n s → v j = 0) := by
  have hl := hX.len
  have hs8 : s < 256 := Nat.lt_of_lt_of_le hs (pow_le8 hn8)
  have hsz : kinds_size (s : Int) = some ((cnt n s : Nat) : Int) := by rw [kinds_size_nat hs8, size_of_lt hs hn8]
  have hcn : cnt n s ≤ n := cnt_le n s
  unfold kinds_rankOf
  refine gBind (R := fun Y => Y = cols n s X r) (gFor r (fun k (x : List (List Int) × Int) => x.2 = (k : Int) ∧ x.1 = cols n s X k) (Nat.zero_le _) ⟨rfl, rfl⟩ ?_) ?_
  · rintro k ⟨_, _⟩ hk ⟨rfl, rfl⟩
    dsimp only
    refine gIte (fun h1 => ?_) fun h1 => gSome (by rw [show k = r by omega])
    have hkr : k < r := by omega
    refine gChk ⟨by omega, by omega⟩ (gBind (R := fun l => l = (elm n s).map fun j => ent X k j) (gFor n (fun j (x : List Int × Int) => x.2 = (j : Int) ∧ x.1 = (elm j s).map fun j => ent X k j) (Nat.zero_le _) ⟨rfl, rfl⟩ ?_) ?_)
    · rintro j ⟨_, _⟩ hj ⟨rfl, rfl⟩
      simp only [toNat_nat, hX.row k hkr]
      refine gIte (fun h2 => ?_) fun h2 => gSome (by rw [show j = n by omega])
      have hb := bit_nat s j
      rw [toNat_nat] at hb
      refine gChk ⟨by omega, by omega⟩ (gChk (by omega) ?_)
      rw [hb]
      have hle := cnt_le j s
      refine gIte (fun h3 => ?_) fun h3 => ?_
      · have hbit : s.testBit j = true := by
          by_cases q : s.testBit j = true
          · exact q
          · rw [if_neg q] at h3; omega
        have e : (elm (j + 1) s).map (fun j => ent X k j) = (elm j s).map (fun j => ent X k j) ++ [ent X k j] := by rw [elm_succ, if_pos hbit, List.map_append]; rfl
        refine gChk (by simp [elm_len]; omega) ?_
        clear h3 hb
        have hjn : j < n := by omega
        exact gChk ⟨by omega, by omega⟩ ⟨_, rfl, hjn, by simp, e.symm⟩
      · have hbit : ¬ s.testBit j = true := fun q => h3 (if_pos q)
        have e : (elm (j + 1) s).map (fun j => ent X k j) = (elm j s).map (fun j => ent X k j) := by rw [elm_succ, if_neg hbit]
        clear h3 hb
        have hjn : j < n := by omega
        exact gChk ⟨by omega, by omega⟩ ⟨_, rfl, hjn, by simp, e.symm⟩
    · rintro _ rfl
      refine gChk (by simp [cols]; omega) (gSome ⟨hkr, by simp, ?_⟩)
      unfold cols
      rw [List.range_succ, List.map_append]; rfl
  rintro _ rfl
  have hY0 := cols_ok (s := s) hX
  refine gBind (R := fun k => k = ((cnt n s : Nat) : Int) ↔ ∀ v, Ker r (cnt n s) (MF p (cols n s X r)) v → ∀ j, j < cnt n s → v j = 0) ?_ fun k hk => gSome hk
  refine gFor (cnt n s) (fun c (x : List (List Int) × Int × Int) => ∃ rk : Nat, x.2.1 = (rk : Int) ∧ x.2.2 = (c : Int) ∧ MOk p r (cnt n s) x.1 ∧ El r (cnt n s) (MF p (cols n s X r)) (MF p x.1) rk c) (Nat.zero_le _) ⟨0, rfl, rfl, hY0, El.start _ _ _⟩ ?_
  rintro c ⟨Y, _, _⟩ hc ⟨rk, rfl, rfl, hY, hE⟩
  dsimp only at hY hE
  refine gBindE hsz ?_
  have hlY := hY.len
  have hrkr := hE.rkr
  dsimp only
  refine gIte (fun h1 => ?_) fun h1 => ?_
  rotate_left
  · refine gSome ?_
    rw [← hE.done hp (by omega)]
    constructor <;> intro h <;> omega
  have hcn' : c < cnt n s := by omega
  refine gBind (search_spec hY hcn' hrkr _ (fun v => rfl) hr6) ?_
  rintro _ ⟨k, rfl, k1, k2, k3, k4⟩
  refine gIte (fun h2 => ?_) fun h2 => ?_
  · exact gChk ⟨by omega, by omega⟩ (gSome ⟨hcn', rk, rfl, by simp, hY, hE.skip hp hcn' fun i a b => k3 i a (by omega)⟩)
  have hkr : k < r := by omega
  have hrk' : rk < r := by omega
  simp only [toNat_nat]
  have hS := hY.swap hrk' hkr
  have hMS := MF_swap hY hrk' hkr
  obtain ⟨Y1, hY1⟩ : ∃ Y1, Y1 = (Y.set rk (Y.getD k [])).set k (Y.getD rk []) := ⟨_, rfl⟩
  rw [← hY1] at hS hMS ⊢
  have hl1 := hS.len
  have b1 := hS.bd rk hrk' c hcn'
  refine gChk ⟨by omega, by omega⟩ (gChk ⟨by omega, by omega⟩ (gChk ⟨by omega, by omega⟩ (gChk ⟨by omega, by omega⟩ (gChk ⟨⟨by omega, by omega⟩, by omega, by rw [hS.row rk hrk']; omega⟩ ?_))))
  have ee : (Y1.getD rk []).getD c 0 = ent Y1 rk c := rfl
  rw [ee]
  refine gBind (inverse_spec hp h7 b1) ?_
  rintro f ⟨hf1, hf2⟩
  have hne : MF p Y1 rk c ≠ 0 := by
    rw [hMS]
    have : sw rk k rk = k := by unfold sw; split <;> simp_all
    rw [this]; exact k4 hkr
  have hf3 := hf2 hne
  refine gChk ⟨by omega, by omega⟩ ?_
  refine gBind (R := fun Z => MOk p r (cnt n s) Z ∧ ∀ a, a < r → ∀ b, b < cnt n s → MF p Z a b = if rk < a then MF p Y1 a b - (MF p Y1 a c * cF p f) * MF p Y1 rk b else MF p Y1 a b) ?_ ?_
  · refine gFor r (fun i (x : List (List Int) × Int) => x.2 = (i : Int) ∧ rk < i ∧ MOk p r (cnt n s) x.1 ∧ ∀ a, a < r → ∀ b, b < cnt n s → MF p x.1 a b = if rk < a ∧ a < i then MF p Y1 a b - (MF p Y1 a c * cF p f) * MF p Y1 rk b else MF p Y1 a b) (k0 := rk + 1) (by omega) ⟨by simp, by omega, hS, fun a ha b hb => by rw [if_neg (by omega)]⟩ ?_
    rintro i ⟨Z, _⟩ hi ⟨rfl, i1, hZ, hZ2⟩
    dsimp only at hZ hZ2 ⊢
    have hlZ := hZ.len
    refine gIte (fun h3 => ?_) fun h3 => ?_
    rotate_left
    · refine gSome ⟨hZ, fun a ha b hb => ?_⟩
      rw [hZ2 a ha b hb]
      by_cases q : rk < a
      · rw [if_pos q, if_pos ⟨q, by omega⟩]
      · rw [if_neg q, if_neg (fun h => q h.1)]
    have hir : i < r := by omega
    have bz := hZ.bd i hir c hcn'
    have m1 := mul_bd7 bz.1 (by omega) hf1.1 (by omega)
    have ez : (Z.getD i []).getD c 0 = ent Z i c := rfl
    simp only [toNat_nat, ez]
    refine gChk ⟨⟨by omega, by omega⟩, ⟨by omega, by rw [hZ.row i hir]; omega⟩, ⟨by omega, by omega⟩, by omega⟩ ?_
    have ti : cF p (Int.tmod (ent Z i c * f) p) = MF p Y1 i c * cF p f := by
      rw [cF_tmod m1.1, cF_mul]
      have := hZ2 i hir c hcn'
      rw [if_neg (by omega)] at this
      exact congrArg (· * cF p f) this
    refine gBind (rowop_spec h7 (by omega) hr6 hZ (Nat.le_of_lt hcn') hrk' hir (by omega) (tmod_bd m1.1) _ (fun v w => by simp only [toNat_nat])) ?_
    rintro W ⟨hW, hW2⟩
    refine gChk ⟨by omega, by omega⟩ (gSome ⟨hir, by simp, by omega, hW, fun a ha b hb => ?_⟩)
    rw [hW2 a ha b hb, ti]
    by_cases q : a = i
    · subst q
      have za : MF p Z a b = MF p Y1 a b := by have := hZ2 a ha b hb; rw [if_neg (by omega)] at this; exact this
      have zr : MF p Z rk b = MF p Y1 rk b := by have := hZ2 rk hrk' b hb; rw [if_neg (by omega)] at this; exact this
      have R : ∀ x y : Fin p, (if rk < a ∧ a < a + 1 then x else y) = x := fun x y => if_pos ⟨i1, by omega⟩
      rw [R, za, zr]
      by_cases q2 : c ≤ b
      · rw [if_pos ⟨rfl, q2⟩]
      · rw [if_neg (fun h => q2 h.2)]
        have lowr : MF p Y1 rk b = 0 := by
          rw [hMS]
          refine hE.low _ ?_ (sw_lt hrk' hkr hrk') b (by omega)
          unfold sw; split <;> (try split) <;> omega
        rw [lowr]; exact ro2 _ _
    · rw [if_neg (fun h => q h.1), hZ2 a ha b hb]
      by_cases q2 : rk < a ∧ a < i
      · rw [if_pos q2, if_pos ⟨q2.1, by omega⟩]
      · rw [if_neg q2, if_neg (by omega)]
  · rintro Z ⟨hZ, hZ2⟩
    refine gChk ⟨by omega, by omega⟩ (gChk ⟨by omega, by omega⟩ (gSome ⟨hcn', rk + 1, by simp, by simp, hZ, ?_⟩))
    refine hE.piv hcn' k1 hkr (M1 := MF p Y1) (t := fun a => if rk < a then MF p Y1 a c * cF p f else 0) (fun i hi j hj => hMS i j) hne (fun i hi => if_neg (by omega)) (fun i hi j hj => ?_) fun i a b => ?_
    · rw [hZ2 i hi j hj]
      by_cases q : rk < i
      · simp only [if_pos q]
      · simp only [if_neg q]; exact ro3 _ _
    · rw [hZ2 i b c hcn', if_pos a]
      exact ro4 _ hf3
where
 ro2 (a b : Fin p) : a = a - b * 0 := by grind
 ro3 (a b : Fin p) : a = a - 0 * b := by grind
 ro4 (a : Fin p) {f b : Fin p} (h : f * b = 1) : a - a * f * b = 0 := by grind
end
/-- A matrix. -/
def CM (P C : Int) (X : List (List Int)) : Prop := (P = 2 ∨ P = 3 ∨ P = 5 ∨ P = 7) ∧ 0 ≤ C ∧ C ≤ 8 ∧ X.length ≤ 6 ∧ ∀ i, i < X.length → ((X.getD i []).length : Int) = C ∧ ∀ j, j < (X.getD i []).length → 0 ≤ ent X i j ∧ ent X i j < P
theorem CM.elim {P C : Int} {X : List (List Int)} (h : CM P C X) : ∃ (p n : Nat) (_ : NeZero p), P = p ∧ C = n ∧ n ≤ 8 ∧ p ≤ 7 ∧ Fld p ∧ X.length ≤ 6 ∧ MOk p X.length n X := by
 obtain ⟨h1, h2, h3, h4, h5⟩ := h
 obtain ⟨n, rfl⟩ : ∃ n : Nat, C = n := ⟨C.toNat, by omega⟩
 have ok : ∀ p : Nat, P = p → MOk p X.length n X := fun p hp => by
  subst hp
  exact ⟨rfl, fun i hi => by have := (h5 i hi).1; omega, fun i hi j hj => (h5 i hi).2 j (by have := (h5 i hi).1; omega)⟩
 rcases h1 with e | e | e | e <;> subst e
 ·exact ⟨2, n, inferInstance, rfl, rfl, by omega, by omega, fld2, h4, ok 2 rfl⟩
 ·exact ⟨3, n, inferInstance, rfl, rfl, by omega, by omega, fld3, h4, ok 3 rfl⟩
 ·exact ⟨5, n, inferInstance, rfl, rfl, by omega, by omega, fld5, h4, ok 5 rfl⟩
 ·exact ⟨7, n, inferInstance, rfl, rfl, by omega, by omega, fld7, h4, ok 7 rfl⟩
theorem CM.of {p n : Nat} (hp : p = 2 ∨ p = 3 ∨ p = 5 ∨ p = 7) (hn : n ≤ 8) {r : Nat} (hr : r ≤ 6) {X : List (List Int)} (hX : MOk p r n X) : CM p n X :=
 ⟨by omega, by omega, by omega, by rw [hX.len]; exact hr, fun i hi => by
  rw [hX.len] at hi
  have := hX.row i hi
  exact ⟨by omega, fun j hj => hX.bd i hi j (by omega)⟩⟩
theorem CheckMatrix_spec (P C : Int) (X : List (List Int)) : Gets (kinds_CheckMatrix P C X) (fun e => (e = 0 ∨ e = 1) ∧ (e = 0 ↔ CM P C X)) := by
 unfold kinds_CheckMatrix
 refine gIte (fun h1 => gSome ⟨.inr rfl, fun h => by omega, fun h => ?_⟩) fun h1 => ?_
 ·obtain ⟨a, b, c, d, _⟩ := h
  omega
 have hb : (P = 2 ∨ P = 3 ∨ P = 5 ∨ P = 7) ∧ 0 ≤ C ∧ C ≤ 8 ∧ X.length ≤ 6 := ⟨by omega, by omega, by omega, by omega⟩
 refine gBind (R := fun z : Unit ⊕ Int => match z with | .inl _ => CM P C X | .inr e => e = 1 ∧ ¬ CM P C X) (gFor X.length (fun i (v : Int) => v = (i : Int) ∧ ∀ a, a < i → ((X.getD a []).length : Int) = C ∧ ∀ j, j < (X.getD a []).length → 0 ≤ ent X a j ∧ ent X a j < P) (Nat.zero_le _) ⟨rfl, fun a ha => by omega⟩ ?_) ?_
 ·rintro i v hi ⟨rfl, h2⟩
  refine gIte (fun h3 => ?_) fun h3 => ?_
  rotate_left
  ·have e : i = X.length := by omega
   subst e
   exact gSome ⟨hb.1, hb.2.1, hb.2.2.1, hb.2.2.2, h2⟩
  have hil : i < X.length := by omega
  refine gChk ⟨by omega, by omega⟩ ?_
  simp only [toNat_nat]
  refine gIte (fun h4 => gSome ⟨rfl, fun h => h4 (h.2.2.2.2 i hil).1⟩) fun h4 => ?_
  refine gBind (R := fun z : Unit ⊕ Int => match z with | .inl _ => ∀ j, j < (X.getD i []).length → 0 ≤ ent X i j ∧ ent X i j < P | .inr e => e = 1 ∧ ¬ CM P C X) (gFor (X.getD i []).length (fun j (v : Int) => v = (j : Int) ∧ ∀ b, b < j → 0 ≤ ent X i b ∧ ent X i b < P) (Nat.zero_le _) ⟨rfl, fun b hb => by omega⟩ ?_) ?_
  ·rintro j v hj ⟨rfl, h5⟩
   refine gIte (fun h6 => ?_) fun h6 => ?_
   rotate_left
   ·have e : j = (X.getD i []).length := by omega
    subst e
    exact gSome h5
   have hjl : j < (X.getD i []).length := by omega
   refine gChk ⟨by omega, by omega⟩ ?_
   simp only [toNat_nat]
   have ee : (X.getD i []).getD j 0 = ent X i j := rfl
   refine gIte (fun h7 => gSome ⟨rfl, fun h => ?_⟩) fun h7 => ?_
   ·have := (h.2.2.2.2 i hil).2 j hjl
    rw [ee] at h7
    omega
   ·rw [ee] at h7
    refine gSome ⟨hjl, by simp, fun b hb' => ?_⟩
    rcases Nat.lt_succ_iff_lt_or_eq.1 hb' with q | q
    ·exact h5 b q
    ·subst q; omega
  ·rintro (_ | e) hz
   ·refine gSome ⟨hil, by simp, fun a ha => ?_⟩
    rcases Nat.lt_succ_iff_lt_or_eq.1 ha with q | q
    ·exact h2 a q
    ·subst q; exact ⟨by omega, hz⟩
   ·exact gSome hz
 ·rintro (_ | e) hz
  ·exact gSome ⟨.inl rfl, fun _ => hz, fun _ => rfl⟩
  ·obtain ⟨rfl, hz⟩ := hz
   exact gSome ⟨.inr rfl, fun h => by omega, fun h => absurd h hz⟩
section
variable {p : Nat} [NeZero p]
/-- Columns that do not hang on one another. -/
def ColInd (p : Nat) [NeZero p] (r n : Nat) (X : List (List Int)) (s : Nat) : Prop := ∀ v : Nat → Fin p, Ker r n (MF p X) v → (∀ j, j < n → s.testBit j = false → v j = 0) → ∀ j, j < n → v j = 0
theorem cnt_up (s : Nat) {a b : Nat} (h : a ≤ b) : cnt a s ≤ cnt b s := by
 obtain ⟨d, rfl⟩ : ∃ d, b = a + d := ⟨b - a, by omega⟩
 clear h
 induction d with
 | zero => exact Nat.le_refl _
 | succ d ih => exact Nat.le_trans ih (Nat.le_add_right _ _)
theorem elm_at {s : Nat} : ∀ {n j : Nat}, j < n → s.testBit j = true → (elm n s).getD (cnt j s) 0 = j
 | 0, j, h, _ => by omega
 | n + 1, j, h, hb => by
  rw [elm_succ]
  rcases Nat.lt_succ_iff_lt_or_eq.1 h with q | q
  ·have ih := elm_at (n := n) q hb
   have hl : cnt j s < (elm n s).length := by
    rw [elm_len]
    have h1 : cnt (j + 1) s ≤ cnt n s := cnt_up s (by omega)
    rw [cnt, if_pos hb] at h1
    omega
   by_cases c : s.testBit n = true
   ·rw [if_pos c, List.getD_eq_getElem?_getD, List.getElem?_append_left hl, ← List.getD_eq_getElem?_getD]; exact ih
   ·rw [if_neg c]; exact ih
  ·subst q
   rw [if_pos hb, List.getD_eq_getElem?_getD, List.getElem?_append_right (by rw [elm_len]; exact Nat.le_refl _), elm_len, Nat.sub_self]; rfl
theorem elm_bit {n s k : Nat} (hk : k < cnt n s) : s.testBit ((elm n s).getD k 0) = true := by
 have hl : k < (elm n s).length := by rw [elm_len]; exact hk
 rw [List.getD_eq_getElem?_getD, List.getElem?_eq_getElem hl]
 have := List.getElem_mem hl
 unfold elm at this
 exact (List.mem_filter.1 this).2
theorem elm_idx {s : Nat} : ∀ {n k : Nat}, k < cnt n s → cnt ((elm n s).getD k 0) s = k
 | 0, k, h => by simp [cnt] at h
 | n + 1, k, h => by
  rw [elm_succ]
  rw [cnt] at h
  by_cases c : s.testBit n = true
  ·rw [if_pos c] at h ⊢
   rcases Nat.lt_succ_iff_lt_or_eq.1 h with q | q
   ·rw [List.getD_eq_getElem?_getD, List.getElem?_append_left (by rw [elm_len]; exact q), ← List.getD_eq_getElem?_getD]; exact elm_idx q
   ·subst q
    rw [List.getD_eq_getElem?_getD, List.getElem?_append_right (by rw [elm_len]; exact Nat.le_refl _), elm_len, Nat.sub_self]; rfl
  ·rw [if_neg c] at h ⊢
   exact elm_idx (by omega)
theorem colInd_iff {r n : Nat} {X : List (List Int)} {s : Nat} : (∀ v, Ker r (cnt n s) (MF p (cols n s X r)) v → ∀ j, j < cnt n s → v j = 0) ↔ ColInd p r n X s := by
 have sum : ∀ (i : Nat), i < r → ∀ (v w : Nat → Fin p), (∀ k, k < cnt n s → w k = v ((elm n s).getD k 0)) → (∀ j, j < n → s.testBit j = false → v j = 0) → Sm (cnt n s) (fun k => MF p (cols n s X r) i k * w k) = Sm n (fun j => MF p X i j * v j) := fun i hi v w hw hv => by
  rw [Sm_congr (g := fun k => MF p X i ((elm n s).getD k 0) * v ((elm n s).getD k 0)) (fun k hk => by rw [hw k hk]; unfold MF; rw [cols_ent hi hk]), Sm_elm s (fun j => MF p X i j * v j) n]
  refine Sm_congr fun j hj => ?_
  by_cases c : s.testBit j = true
  ·rw [if_pos c]
  ·rw [if_neg c, hv j hj (by simpa using c)]; exact (z1 _).symm
 constructor
 ·intro h v hk hv j hj
  cases c : s.testBit j with
  | false => exact hv j hj c
  | true =>
   have := h (fun k => v ((elm n s).getD k 0)) (fun i hi => by rw [sum i hi v _ (fun _ _ => rfl) hv]; exact hk i hi) (cnt j s) (by
    have h2 : cnt (j + 1) s ≤ cnt n s := cnt_up s (by omega)
    rw [cnt, if_pos c] at h2
    omega)
   rw [← elm_at hj c]; exact this
 ·intro h w hk k hk2
  have hv := h (fun j => if s.testBit j = true then w (cnt j s) else 0) (fun i hi => by
   rw [← sum i hi _ w (fun k hk => by simp only [elm_bit hk, if_true, elm_idx hk]) (fun j hj c => by simp [c])]
   exact hk i hi) (fun j hj c => by simp [c]) _ (elm_lt hk2)
  simpa only [elm_bit hk2, if_true, elm_idx hk2] using hv
theorem colInd0 {r n : Nat} {X : List (List Int)} : ColInd p r n X 0 := fun v _ h j hj => h j hj (by simp)
/-- The sets of columns that the code finds. -/
theorem Linear_spec (hp : Fld p) (h7 : p ≤ 7) {r n : Nat} {X : List (List Int)} (hX : MOk p r n X) (hr6 : r ≤ 6) (hn8 : n ≤ 8) (hc : CM p n X) : Gets (kinds_Linear p n X) (fun y => ∃ K, y = ((n : Int), cs K, 0) ∧ Fam n K ∧ ∀ s, s ∈ K ↔ s < 2 ^ n ∧ ColInd p r n X s ∧ ∀ t, t < 2 ^ n → ColInd p r n X t → cnt n t ≤ cnt n s) := by
 unfold kinds_Linear
 refine gBind (CheckMatrix_spec p n X) ?_
 rintro e ⟨h1, h2⟩
 rw [h2.2 hc]
 refine gIte (fun h => absurd rfl h) fun _ => ?_
 refine gBind (greatest_spec hn8 (p := fun s => ColInd p r n X s) (fun s hs => ?_) colInd0) ?_
 ·unfold kinds_Linear_1
  refine gBind (rankOf_elim hp h7 hX hr6 hn8 hs n) fun k hk => ?_
  have hs8 : s < 256 := Nat.lt_of_lt_of_le hs (pow_le8 hn8)
  have hsz : kinds_size (s : Int) = some ((cnt n s : Nat) : Int) := by rw [kinds_size_nat hs8, size_of_lt hs hn8]
  refine gBindE hsz (gSome ?_)
  rw [decide_eq_true_eq, hk]
  exact colInd_iff
 ·rintro y ⟨K, rfl, hF, hK⟩
  exact gSome ⟨K, rfl, hF, hK⟩
end
section
variable {p : Nat} [NeZero p]
theorem fa1 (a b c : Fin p) : a * (b - c) = a * b - a * c := by grind
theorem fa2 (a b : Fin p) (h : a - b = 0) : a = b := by grind
theorem fa3 (a : Fin p) : a * 1 = a := by grind
theorem fa4 (a : Fin p) : 1 * a = a := by grind
theorem fa5 (a : Fin p) : a * 0 = 0 := by grind
theorem fa6 (a : Fin p) : 0 * a = 0 := by grind
theorem fa7 (a : Fin p) : a - a = 0 := by grind
theorem fa8 (a b : Fin p) : a * b = b * a := by grind
/-- Rows with heads: a head is 1 and stands alone in its column; what is before it is nought. -/
structure Rr (k n : Nat) (h : Nat → Nat) (M : Nat → Nat → Fin p) : Prop where
 inc : ∀ i j, i < j → j < k → h i < h j
 lt : ∀ i, i < k → h i < n
 one : ∀ i, i < k → M i (h i) = 1
 off : ∀ i j, i < k → j < k → i ≠ j → M i (h j) = 0
 low : ∀ i j, i < k → j < h i → M i j = 0
variable {k n : Nat} {h : Nat → Nat} {M : Nat → Nat → Fin p}
theorem Rr.inj (H : Rr k n h M) {i j : Nat} (hi : i < k) (hj : j < k) (e : h i = h j) : i = j := by
 rcases Nat.lt_trichotomy i j with c | c | c
 ·have := H.inc i j c hj; omega
 ·exact c
 ·have := H.inc j i c hi; omega
theorem ind_sum (hlt : ∀ t, t < k → h t < n) (f c : Nat → Fin p) : Sm n (fun l => f l * Sm k (fun t => if l = h t then c t else 0)) = Sm k (fun t => f (h t) * c t) := by
 rw [Sm_congr (g := fun l => Sm k (fun t => f l * (if l = h t then c t else 0))) fun l _ => (Sm_mul _ _ _).symm, Sm_comm]
 refine Sm_congr fun t ht => ?_
 rw [Sm_one (k := h t) (hlt t ht) fun l _ hne => by rw [if_neg hne]; exact fa5 _, if_pos rfl]
/-- What a column without a head tells. -/
def kv (k : Nat) (h : Nat → Nat) (M : Nat → Nat → Fin p) (j l : Nat) : Fin p := (if l = j then 1 else 0) - Sm k (fun t => if l = h t then M t j else 0)
theorem kv_sum (hlt : ∀ t, t < k → h t < n) {j : Nat} (hj : j < n) (f : Nat → Fin p) : Sm n (fun l => f l * kv k h M j l) = f j - Sm k (fun t => f (h t) * M t j) := by
 rw [← ind_sum hlt f (fun t => M t j)]
 have : f j = Sm n (fun l => f l * (if l = j then 1 else 0)) := by
  rw [Sm_one (k := j) hj fun l _ hne => by rw [if_neg hne]; exact fa5 _, if_pos rfl, fa3]
 rw [this, ← Sm_sub]
 exact Sm_congr fun l _ => fa1 _ _ _
theorem Rr.row (H : Rr k n h M) {i : Nat} (hi : i < k) (c : Nat → Fin p) : Sm k (fun t => M i (h t) * c t) = c i := by
 rw [Sm_one (k := i) hi fun t ht hne => by rw [H.off i t hi ht (Ne.symm hne)]; exact fa6 _, H.one i hi, fa4]
theorem Rr.kv_ker (H : Rr k n h M) {j : Nat} (hj : j < n) : Ker k n M (kv k h M j) := fun i hi => by
 rw [kv_sum H.lt hj, H.row hi (fun t => M t j), fa7]
theorem Rr.lead (H : Rr k n h M) (h1 : (1 : Fin p) ≠ 0) {j : Nat} (hj : j < n) : (∃ t, t < k ∧ h t = j) ↔ ∀ v : Nat → Fin p, Ker k n M v → (∀ l, j < l → l < n → v l = 0) → v j = 0 := by
 constructor
 ·rintro ⟨t, ht, rfl⟩ v hv hz
  have := hv t ht
  rw [Sm_one (k := h t) hj fun l hl hne => ?_, H.one t ht, fa4] at this
  ·exact this
  ·rcases Nat.lt_or_ge l (h t) with c | c
   ·rw [H.low t l ht c]; exact fa6 _
   ·rw [hz l (by omega) hl]; exact fa5 _
 ·intro hall
  apply Classical.byContradiction
  intro hno
  have hne : ∀ t, t < k → j ≠ h t := fun t ht e => hno ⟨t, ht, e.symm⟩
  have e : kv k h M j j = 1 := by
   unfold kv
   rw [if_pos rfl, Sm_zero fun t ht => if_neg (hne t ht)]
   grind
  refine h1 (e ▸ hall _ (H.kv_ker hj) fun l hl _ => ?_)
  unfold kv
  rw [if_neg (by omega), Sm_zero fun t ht => ?_]
  ·exact fa7 0
  ·by_cases c : l = h t
   ·rw [if_pos c]; exact H.low t j ht (by omega)
   ·rw [if_neg c]
theorem seq_le {k k' : Nat} {h h' : Nat → Nat} (i1 : ∀ i j, i < j → j < k → h i < h j) (i2 : ∀ i j, i < j → j < k' → h' i < h' j) (hs : ∀ t, t < k → ∃ t', t' < k' ∧ h' t' = h t) : k ≤ k' ∧ ∀ t, t < k → h' t ≤ h t := by
 have mono : ∀ i j, i ≤ j → j < k' → h' i ≤ h' j := fun i j hij hj => by
  rcases Nat.lt_or_ge i j with c | c
  ·exact Nat.le_of_lt (i2 i j c hj)
  ·rw [show i = j by omega]; exact Nat.le_refl _
 have key : ∀ t, t < k → ∃ t', t ≤ t' ∧ t' < k' ∧ h' t' = h t := by
  intro t
  induction t with
  | zero => exact fun h0 => let ⟨t', a, b⟩ := hs 0 h0; ⟨t', Nat.zero_le _, a, b⟩
  | succ t ih =>
   intro ht
   obtain ⟨u, u1, u2, u3⟩ := ih (by omega)
   obtain ⟨t', a, b⟩ := hs (t + 1) ht
   have h1 := i1 t (t + 1) (by omega) ht
   refine ⟨t', ?_, a, b⟩
   rcases Nat.lt_or_ge u t' with c | c
   ·omega
   ·have := mono t' u c u2; omega
 refine ⟨?_, fun t ht => ?_⟩
 ·rcases Nat.eq_zero_or_pos k with c | c
  ·omega
  ·obtain ⟨t', a, b, _⟩ := key (k - 1) (by omega); omega
 ·obtain ⟨t', a, b, c⟩ := key t ht
  rw [← c]; exact mono t t' a b
variable {k' : Nat} {h' : Nat → Nat} {M' : Nat → Nat → Fin p}
theorem Rr.heads (H : Rr k n h M) (H' : Rr k' n h' M') (h1 : (1 : Fin p) ≠ 0) (hk : ∀ v, Ker k n M v → Ker k' n M' v) : ∀ t, t < k' → ∃ s, s < k ∧ h s = h' t := fun t ht =>
 (H.lead h1 (H'.lt t ht)).2 fun v hv hz => (H'.lead h1 (H'.lt t ht)).1 ⟨t, ht, rfl⟩ v (hk v hv) hz
/-- Rows with heads are told by what is nought with them. -/
theorem Rr.same (H : Rr k n h M) (H' : Rr k' n h' M') (h1 : (1 : Fin p) ≠ 0) (hk : ∀ v, Ker k n M v ↔ Ker k' n M' v) : k = k' ∧ (∀ i, i < k → h i = h' i) ∧ ∀ i, i < k → ∀ j, j < n → M i j = M' i j := by
 obtain ⟨a1, a2⟩ := seq_le H'.inc H.inc (H.heads H' h1 fun v => (hk v).1)
 obtain ⟨b1, b2⟩ := seq_le H.inc H'.inc (H'.heads H h1 fun v => (hk v).2)
 have e : k = k' := by omega
 subst e
 have eh : ∀ i, i < k → h i = h' i := fun i hi => by have := a2 i hi; have := b2 i hi; omega
 refine ⟨rfl, eh, fun i hi j hj => ?_⟩
 have := (hk _).1 (H.kv_ker hj) i hi
 rw [kv_sum H.lt hj, Sm_congr (g := fun t => M' i (h' t) * M t j) fun t ht => by rw [eh t ht], H'.row hi (fun t => M t j)] at this
 exact (fa2 _ _ this).symm
end
section
variable {p : Nat} [NeZero p]
theorem fb2 (a b c d : Fin p) : a * b * c = a * c * b := by grind
theorem fb3 (a b t x : Fin p) : a + (0 - b) * x = a - b * x := by grind
theorem fb5 (a b : Fin p) : a - 0 * b = a := by grind
theorem fb6 (a b : Fin p) : a - b * 0 = a := by grind
theorem fb7 (a : Fin p) : a - a * 1 = 0 := by grind
theorem field_twin_spec {r n : Nat} {X : List (List Int)} (hX : MOk p r n X) (hr : r ≤ 6) (hn : n ≤ 8) (P C : Int) : Gets (field_twin P C X) (fun y => y = (P, C, X)) := by
 have hl := hX.len
 unfold field_twin
 refine gBind (R := fun o => o = X) (gFor r (fun k (x : List (List Int) × Int) => x.2 = (k : Int) ∧ x.1 = X.take k) (Nat.zero_le _) ⟨rfl, rfl⟩ ?_) ?_
 ·rintro k ⟨_, _⟩ hk ⟨rfl, rfl⟩
  simp only [toNat_nat]
  refine gIte (fun h1 => ?_) fun h1 => gSome (List.take_of_length_le (by omega))
  have hkr : k < r := by omega
  have hrow := hX.row k hkr
  have e : X.take (k + 1) = X.take k ++ [X.getD k []] := by
   rw [List.getD_eq_getElem?_getD, List.getElem?_eq_getElem (show k < X.length by omega)]
   exact List.take_succ_eq_append_getElem (by omega)
  refine gChk ⟨by omega, by omega⟩ (gChk (by omega) (gChk (by rw [← e, List.length_take]; omega) (gSome ⟨hkr, by simp, e.symm⟩)))
 ·rintro _ rfl
  exact gSome rfl
theorem finverse_spec (hp : Fld p) (h7 : p ≤ 7) {a : Int} (ha : 0 ≤ a ∧ a < p) : Gets (field_inverse a p) (fun f => (0 ≤ f ∧ f < p) ∧ (cF p a ≠ 0 → cF p f * cF p a = 1)) := by
 have hp0 : 0 < p := Nat.pos_of_ne_zero (NeZero.ne p)
 have hp1 : 1 < p := by
  rcases Nat.lt_or_ge 1 p with c | c
  ·exact c
  ·exfalso
   have e : p = 1 := by omega
   subst e
   exact hp.one (by apply Fin.ext; omega)
 have one : ∀ b : Nat, b < p → (Int.tmod (a * b) p = 1 ↔ cF p (b : Int) * cF p a = 1) := fun b hb => by
  have hm := mul_bd7 ha.1 (by omega) (show (0 : Int) ≤ b by omega) (by omega)
  have e : cF p (Int.tmod (a * b) p) = cF p (b : Int) * cF p a := by
   rw [cF_tmod hm.1, cF_mul]; exact mulc _ _
  rw [← e, ← cF_one hp1, cF_eq (tmod_bd hm.1) ⟨by omega, by omega⟩]
 unfold field_inverse
 refine gBind (R := fun z : Unit ⊕ Int => match z with | .inl _ => cF p a = 0 | .inr f => (0 ≤ f ∧ f < p) ∧ (cF p a ≠ 0 → cF p f * cF p a = 1)) (gFor p (fun k (v : Int) => v = (k : Int) ∧ 1 ≤ k ∧ ∀ b : Nat, b < k → Int.tmod (a * b) p ≠ 1) (show 1 ≤ p by omega) ⟨rfl, Nat.le_refl _, fun b hb => by rw [show b = 0 by omega]; simp⟩ ?_) ?_
 ·rintro k v hk ⟨rfl, hk1, hb⟩
  refine gIte (fun h1 => ?_) fun h1 => ?_
  ·have hm := mul_bd7 ha.1 (by omega) (show (0 : Int) ≤ k by omega) (by omega)
   refine gChk ⟨by omega, by omega⟩ (gIte (fun h2 => ?_) fun h2 => ?_)
   ·exact gSome ⟨by omega, fun _ => (one k (by omega)).1 h2⟩
   ·refine gSome ⟨by omega, by simp, by omega, fun b hb' => ?_⟩
    rcases Nat.lt_succ_iff_lt_or_eq.1 hb' with c | c
    ·exact hb b c
    ·subst c; exact h2
  ·refine gSome ?_
   refine Classical.byContradiction fun hne => ?_
   obtain ⟨b, hb2⟩ := hp.inv _ hne
   refine hb b.val (by have := b.isLt; omega) ((one b.val b.isLt).2 ?_)
   rw [cF_fin, mulc]; exact hb2
 ·rintro (_ | f) hz
  ·exact gSome ⟨⟨by omega, by omega⟩, fun h => absurd hz h⟩
  ·exact gSome hz
/-- A row times a number. -/
theorem scale_spec {r n rk : Nat} {Y : List (List Int)} {y : Int} (h7 : p ≤ 7) (hn8 : n ≤ 8) (hY : MOk p r n Y) (hrk : rk < r) (hy : 0 ≤ y ∧ y < p) :
  ∀ f : List (List Int) × Int → Option ((List (List Int) × Int) ⊕ List (List Int)), (∀ v v5, f (v, v5) = (if v5 < (n : Int) then
   chk ((0 ≤ (rk : Int) ∧ (rk : Int) < v.length) ∧ (0 ≤ v5 ∧ v5 < ((v.getD rk []).length)) ∧ (-9223372036854775808 ≤ (((v.getD rk []).getD v5.toNat 0) * y : Int) ∧ (((v.getD rk []).getD v5.toNat 0) * y : Int) ≤ 9223372036854775807) ∧ (p : Int) ≠ 0) <|
   some (.inl (v.set rk ((v.getD rk []).set v5.toNat (Int.tmod (((v.getD rk []).getD v5.toNat 0) * y) p)), v5 + 1))
   else some (.inr v))) →
  Gets (loopM f (Y, 0)) (fun Z => MOk p r n Z ∧ ∀ a, a < r → ∀ b, b < n → MF p Z a b = if a = rk then MF p Y a b * cF p y else MF p Y a b) := by
 intro f hf
 refine gFor n (fun k (x : List (List Int) × Int) => x.2 = (k : Int) ∧ MOk p r n x.1 ∧ ∀ a, a < r → ∀ b, b < n → MF p x.1 a b = if a = rk ∧ b < k then MF p Y a b * cF p y else MF p Y a b) (Nat.zero_le _) ⟨rfl, hY, fun a ha b hb => by rw [if_neg (by omega)]⟩ ?_
 rintro k ⟨v, _⟩ hk ⟨rfl, h2, h3⟩
 dsimp only at h2 h3
 rw [hf]
 have hl := h2.len
 have er : ∀ j, (v.getD rk []).getD j 0 = ent v rk j := fun _ => rfl
 simp only [toNat_nat, hl, h2.row rk hrk, er]
 refine gIte (fun h4 => ?_) fun h4 => ?_
 ·have hkn : k < n := by omega
  have br := h2.bd rk hrk k hkn
  have m1 := mul_bd7 br.1 (by omega) hy.1 (by omega)
  refine gChk ⟨⟨by omega, by omega⟩, ⟨by omega, by omega⟩, ⟨by omega, by omega⟩, by omega⟩ (gSome ⟨hkn, by simp, h2.put hrk hkn (tmod_bd m1.1), fun a ha b hb => ?_⟩)
  rw [MF_put h2 hrk hkn]
  by_cases q : a = rk ∧ b = k
  ·obtain ⟨rfl, rfl⟩ := q
   rw [if_pos ⟨rfl, rfl⟩, if_pos ⟨rfl, by omega⟩, cF_tmod m1.1, cF_mul]
   have e1 : cF p (ent v a b) = MF p Y a b := by have := h3 a ha b hb; rw [if_neg (by omega)] at this; exact this
   rw [e1]
  ·rw [if_neg q, h3 a ha b hb]
   by_cases q2 : a = rk ∧ b < k
   ·rw [if_pos q2, if_pos ⟨q2.1, by omega⟩]
   ·rw [if_neg q2, if_neg (fun h => by
     rcases Nat.lt_succ_iff_lt_or_eq.1 h.2 with d | d
     ·exact q2 ⟨h.1, d⟩
     ·exact q ⟨h.1, d⟩)]
 ·refine gSome ⟨h2, fun a ha b hb => ?_⟩
  rw [h3 a ha b hb]
  by_cases q : a = rk
  ·rw [if_pos q, if_pos ⟨q, by omega⟩]
  ·rw [if_neg q, if_neg (fun h => q h.1)]
/-- A row without a multiple of another row. -/
theorem frowop_spec {r n rk i : Nat} {Y : List (List Int)} {T : Int} (h7 : p ≤ 7) (hn8 : n ≤ 8) (hY : MOk p r n Y) (hrk : rk < r) (hi : i < r) (hne : i ≠ rk) (hT : 0 ≤ T ∧ T < p) :
  ∀ f : List (List Int) × Int → Option ((List (List Int) × Int) ⊕ List (List Int)), (∀ v v7, f (v, v7) = (if v7 < (n : Int) then
   chk ((0 ≤ (i : Int) ∧ (i : Int) < v.length) ∧ (0 ≤ v7 ∧ v7 < ((v.getD i []).length)) ∧ (-9223372036854775808 ≤ ((p : Int) - T : Int) ∧ ((p : Int) - T : Int) ≤ 9223372036854775807) ∧ (0 ≤ (rk : Int) ∧ (rk : Int) < v.length) ∧ (0 ≤ v7 ∧ v7 < ((v.getD rk []).length)) ∧ (-9223372036854775808 ≤ (((p : Int) - T) * ((v.getD rk []).getD v7.toNat 0) : Int) ∧ (((p : Int) - T) * ((v.getD rk []).getD v7.toNat 0) : Int) ≤ 9223372036854775807) ∧ (-9223372036854775808 ≤ (((v.getD i []).getD v7.toNat 0) + (((p : Int) - T) * ((v.getD rk []).getD v7.toNat 0)) : Int) ∧ (((v.getD i []).getD v7.toNat 0) + (((p : Int) - T) * ((v.getD rk []).getD v7.toNat 0)) : Int) ≤ 9223372036854775807) ∧ (p : Int) ≠ 0) <|
   chk ((-9223372036854775808 ≤ (v7 + 1 : Int) ∧ (v7 + 1 : Int) ≤ 9223372036854775807)) <|
   some (.inl (v.set i ((v.getD i []).set v7.toNat (Int.tmod (((v.getD i []).getD v7.toNat 0) + (((p : Int) - T) * ((v.getD rk []).getD v7.toNat 0))) p)), v7 + 1))
   else some (.inr v))) →
  Gets (loopM f (Y, 0)) (fun Z => MOk p r n Z ∧ ∀ a, a < r → ∀ b, b < n → MF p Z a b = if a = i then MF p Y a b - cF p T * MF p Y rk b else MF p Y a b) := by
 intro f hf
 refine gFor n (fun k (x : List (List Int) × Int) => x.2 = (k : Int) ∧ MOk p r n x.1 ∧ ∀ a, a < r → ∀ b, b < n → MF p x.1 a b = if a = i ∧ b < k then MF p Y a b - cF p T * MF p Y rk b else MF p Y a b) (Nat.zero_le _) ⟨rfl, hY, fun a ha b hb => by rw [if_neg (by omega)]⟩ ?_
 rintro k ⟨v, _⟩ hk ⟨rfl, h2, h3⟩
 dsimp only at h2 h3
 rw [hf]
 have hl := h2.len
 have ei : ∀ j, (v.getD i []).getD j 0 = ent v i j := fun _ => rfl
 have er : ∀ j, (v.getD rk []).getD j 0 = ent v rk j := fun _ => rfl
 simp only [toNat_nat, hl, h2.row i hi, h2.row rk hrk, ei, er]
 refine gIte (fun h4 => ?_) fun h4 => ?_
 ·have hkn : k < n := by omega
  have bi := h2.bd i hi k hkn
  have br := h2.bd rk hrk k hkn
  have m1 := mul_bd7 (a := (p : Int) - T) (by omega) (by omega) br.1 (by omega)
  refine gChk ⟨⟨by omega, by omega⟩, ⟨by omega, by omega⟩, ⟨by omega, by omega⟩, ⟨by omega, by omega⟩, ⟨by omega, by omega⟩, ⟨by omega, by omega⟩, ⟨by omega, by omega⟩, by omega⟩ ?_
  have hpos : 0 ≤ ent v i k + ((p : Int) - T) * ent v rk k := by omega
  refine gChk ⟨by omega, by omega⟩ (gSome ⟨hkn, by simp, h2.put hi hkn (tmod_bd hpos), fun a ha b hb => ?_⟩)
  rw [MF_put h2 hi hkn]
  by_cases q : a = i ∧ b = k
  ·obtain ⟨rfl, rfl⟩ := q
   rw [if_pos ⟨rfl, rfl⟩, if_pos ⟨rfl, by omega⟩, cF_tmod hpos, cF_add, cF_mul, cF_sub, cF_self]
   have e1 : cF p (ent v a b) = MF p Y a b := by have := h3 a ha b hb; rw [if_neg (by omega)] at this; exact this
   have e2 : cF p (ent v rk b) = MF p Y rk b := by have := h3 rk hrk b hb; rw [if_neg (fun h => hne h.1.symm)] at this; exact this
   rw [e1, e2]; exact fb3 _ _ 0 _
  ·rw [if_neg q, h3 a ha b hb]
   by_cases q2 : a = i ∧ b < k
   ·rw [if_pos q2, if_pos ⟨q2.1, by omega⟩]
   ·rw [if_neg q2, if_neg (fun h => by
     rcases Nat.lt_succ_iff_lt_or_eq.1 h.2 with d | d
     ·exact q2 ⟨h.1, d⟩
     ·exact q ⟨h.1, d⟩)]
 ·refine gSome ⟨h2, fun a ha b hb => ?_⟩
  rw [h3 a ha b hb]
  by_cases q : a = i
  ·rw [if_pos q, if_pos ⟨q, by omega⟩]
  ·rw [if_neg q, if_neg (fun h => q h.1)]
/-- What has been done of a matrix: k heads before column c. -/
structure GJ (r n k : Nat) (h : Nat → Nat) (c : Nat) (X M : Nat → Nat → Fin p) : Prop where
 ker : ∀ w, Ker r n X w ↔ Ker r n M w
 kr : k ≤ r
 cn : c ≤ n
 inc : ∀ i j, i < j → j < k → h i < h j
 lt : ∀ i, i < k → h i < c
 one : ∀ i, i < k → M i (h i) = 1
 off : ∀ i a, i < k → a < r → a ≠ i → M a (h i) = 0
 low : ∀ i j, i < k → j < h i → M i j = 0
 rest : ∀ a j, k ≤ a → a < r → j < c → M a j = 0
theorem ker_scale {r n k : Nat} {M M' : Nat → Nat → Fin p} {y b : Fin p} (hk : k < r) (hy : y * b = 1) (h : ∀ i, i < r → ∀ j, j < n → M' i j = if i = k then M i j * y else M i j) (v : Nat → Fin p) : Ker r n M' v ↔ Ker r n M v := by
 have e : ∀ i, i < r → Sm n (fun j => M' i j * v j) = if i = k then Sm n (fun j => M i j * v j) * y else Sm n (fun j => M i j * v j) := fun i hi => by
  by_cases q : i = k
  ·rw [if_pos q, ← Sm_mulr]
   exact Sm_congr fun j hj => by rw [h i hi j hj, if_pos q]; exact fb2 _ _ _ 0
  ·rw [if_neg q]
   exact Sm_congr fun j hj => by rw [h i hi j hj, if_neg q]
 constructor
 ·intro hv i hi
  have := hv i hi
  rw [e i hi] at this
  by_cases q : i = k
  ·rw [if_pos q] at this
   exact ks _ _ _ this hy
  ·rw [if_neg q] at this; exact this
 ·intro hv i hi
  rw [e i hi]
  have := hv i hi
  by_cases q : i = k
  ·rw [if_pos q, this]; exact fa6 _
  ·rw [if_neg q]; exact this
where
 ks (a y b : Fin p) (h : a * y = 0) (h2 : y * b = 1) : a = 0 := by grind
theorem GJ.skip {r n k c : Nat} {h : Nat → Nat} {X M : Nat → Nat → Fin p} (H : GJ r n k h c X M) (hc : c < n) (hz : ∀ a, k ≤ a → a < r → M a c = 0) : GJ r n k h (c + 1) X M := by
 refine ⟨H.ker, H.kr, hc, H.inc, fun i hi => Nat.lt_succ_of_lt (H.lt i hi), H.one, H.off, H.low, fun a j h1 h2 h3 => ?_⟩
 rcases Nat.lt_succ_iff_lt_or_eq.1 h3 with q | q
 ·exact H.rest a j h1 h2 q
 ·subst q; exact hz a h1 h2
theorem GJ.pivot {r n k c e : Nat} {h : Nat → Nat} {X M M1 M2 M3 : Nat → Nat → Fin p} {y : Fin p} (H : GJ r n k h c X M) (hc : c < n) (hk : k < r) (he : k ≤ e) (her : e < r)
  (h1 : ∀ i, i < r → ∀ j, j < n → M1 i j = M (sw k e i) j) (hy : y * M1 k c = 1) (h2 : ∀ i, i < r → ∀ j, j < n → M2 i j = if i = k then M1 i j * y else M1 i j)
  (h3 : ∀ i, i < r → ∀ j, j < n → M3 i j = if i = k then M2 i j else M2 i j - M2 i c * M2 k j) : GJ r n (k + 1) (fun i => if i = k then c else h i) (c + 1) X M3 := by
 have swr : ∀ i, i < r → sw k e i < r := fun i hi => sw_lt hk her hi
 have swk : ∀ i, i < k → sw k e i = i := fun i hi => by unfold sw; rw [if_neg (by omega), if_neg (by omega)]
 have swg : ∀ i, k ≤ i → i < r → k ≤ sw k e i := fun i hi hr => by unfold sw; split <;> (try split) <;> omega
 have hltc : ∀ i, i < k → h i < n := fun i hi => Nat.lt_trans (H.lt i hi) hc
 -- the pivot's row
 have r1 : ∀ j, j < c → M2 k j = 0 := fun j hj => by
  rw [h2 k hk j (by omega), if_pos rfl, h1 k hk j (by omega), H.rest _ j (swg k (Nat.le_refl _) hk) (swr k hk) hj]; exact fa6 _
 have r2 : M2 k c = 1 := by rw [h2 k hk c hc, if_pos rfl, fa8]; exact hy
 have off1 : ∀ i a, i < k → a < r → a ≠ i → M2 a (h i) = 0 := fun i a hi ha hne => by
  have : M1 a (h i) = 0 := by
   rw [h1 a ha (h i) (hltc i hi)]
   refine H.off i _ hi (swr a ha) fun q => ?_
   rcases Nat.lt_or_ge a k with w | w
   ·rw [swk a w] at q; exact hne q
   ·have := swg a w ha; omega
  rw [h2 a ha (h i) (hltc i hi), this]
  split
  ·exact fa6 _
  ·rfl
 have same : ∀ i j, i < k → j < n → M2 i j = M i j := fun i j hi hj => by
  rw [h2 i (by omega) j hj, if_neg (by omega), h1 i (by omega) j hj, swk i hi]
 refine ⟨fun w => ?_, hk, hc, fun i j hij hj => ?_, fun i hi => ?_, fun i hi => ?_, fun i a hi ha hne => ?_, fun i j hi hj => ?_, fun a j ha har hj => ?_⟩
 ·rw [H.ker, ← ker_sw hk her h1 w, ← ker_scale hk hy h2 w]
  refine (ker_sub (t := fun i => if i = k then 0 else M2 i c) hk (if_pos rfl) (fun i hi j hj => ?_) w).symm
  rw [h3 i hi j hj]
  by_cases q : i = k
  ·rw [if_pos q, if_pos q, fb5]
  ·rw [if_neg q, if_neg q]
 ·by_cases q : j = k
  ·rw [if_pos q, if_neg (by omega)]; exact H.lt i (by omega)
  ·rw [if_neg q, if_neg (by omega)]; exact H.inc i j hij (by omega)
 ·by_cases q : i = k
  ·rw [if_pos q]; omega
  ·rw [if_neg q]; have := H.lt i (by omega); omega
 ·by_cases q : i = k
  ·rw [if_pos q, h3 i (by omega) c hc, if_pos q, q, r2]
  ·have hik : i < k := by omega
   rw [if_neg q, h3 i (by omega) _ (hltc i hik), if_neg q, off1 i k hik hk (by omega), same i _ hik (hltc i hik), H.one i hik, fb6]
 ·by_cases q : i = k
  ·rw [if_pos q, h3 a ha c hc, if_neg (by omega), r2, fb7]
  ·have hik : i < k := by omega
   rw [if_neg q, h3 a ha _ (hltc i hik)]
   by_cases w : a = k
   ·rw [if_pos w]; exact off1 i a hik ha hne
   ·rw [if_neg w, off1 i a hik ha hne, off1 i k hik hk (by omega), fb6]
 ·by_cases q : i = k
  ·rw [if_pos q] at hj
   rw [h3 i (by omega) j (by omega), if_pos q, q]; exact r1 j hj
  ·have hik : i < k := by omega
   rw [if_neg q] at hj
   have := H.lt i hik
   rw [h3 i (by omega) j (by omega), if_neg q, r1 j (by omega), fb6, same i j hik (by omega)]
   exact H.low i j hik hj
 ·rw [h3 a har j (by omega), if_neg (by omega)]
  rcases Nat.lt_succ_iff_lt_or_eq.1 hj with w | w
  ·rw [r1 j w, fb6, h2 a har j (by omega), if_neg (by omega), h1 a har j (by omega)]
   exact H.rest _ j (swg a (by omega) har) (swr a har) w
  ·subst w; rw [r2, fb7]
theorem GJ.fin {r n k c : Nat} {h : Nat → Nat} {X M : Nat → Nat → Fin p} (H : GJ r n k h c X M) (he : c = n ∨ k = r) : Rr k n h M ∧ ∀ w, Ker r n X w ↔ Ker k n M w := by
 refine ⟨⟨H.inc, fun i hi => Nat.lt_of_lt_of_le (H.lt i hi) H.cn, H.one, fun i j hi hj hne => H.off j i hj (Nat.lt_of_lt_of_le hi H.kr) hne, H.low⟩, fun w => ?_⟩
 rw [H.ker]
 constructor
 ·exact fun hv i hi => hv i (Nat.lt_of_lt_of_le hi H.kr)
 ·intro hv i hi
  rcases Nat.lt_or_ge i k with q | q
  ·exact hv i q
  ·rcases he with rfl | rfl
   ·exact Sm_zero fun j hj => by rw [H.rest i j q hi hj]; exact fa6 _
   ·omega
theorem Rr.congr {k n : Nat} {h : Nat → Nat} {M M' : Nat → Nat → Fin p} (e : ∀ i, i < k → ∀ j, M' i j = M i j) (H : Rr k n h M) : Rr k n h M' :=
 ⟨H.inc, H.lt, fun i hi => by rw [e i hi]; exact H.one i hi, fun i j hi hj hne => by rw [e i hi]; exact H.off i j hi hj hne, fun i j hi hj => by rw [e i hi]; exact H.low i j hi hj⟩
theorem getD_take {X : List (List Int)} {k i : Nat} (hi : i < k) : (X.take k).getD i [] = X.getD i [] := by
 rw [List.getD_eq_getElem?_getD, List.getElem?_take_of_lt hi, ← List.getD_eq_getElem?_getD]
theorem MOk.take {r n k : Nat} {X : List (List Int)} (hX : MOk p r n X) (hk : k ≤ r) : MOk p k n (X.take k) := by
 have hl := hX.len
 refine ⟨by rw [List.length_take]; omega, fun i hi => by rw [getD_take hi]; exact hX.row i (by omega), fun i hi j hj => ?_⟩
 have := hX.bd i (by omega) j hj
 unfold ent at this ⊢
 rw [getD_take hi]; exact this
theorem MF_take {X : List (List Int)} {k i : Nat} (hi : i < k) (j : Nat) : MF p (X.take k) i j = MF p X i j := by unfold MF ent; rw [getD_take hi]
theorem field_reduced_spec (hp : Fld p) (h7 : p ≤ 7) {r n : Nat} {X : List (List Int)} (hX : MOk p r n X) (hr : r ≤ 6) (hn : n ≤ 8) :
  Gets (field_reduced ((p : Int), (n : Int), X)) (fun y => ∃ (k : Nat) (h : Nat → Nat) (Y : List (List Int)), k ≤ r ∧ y = ((List.range k).map (fun i => ((h i : Nat) : Int)), ((p : Int), (n : Int), Y)) ∧ MOk p k n Y ∧ Rr k n h (MF p Y) ∧ ∀ w, Ker r n (MF p X) w ↔ Ker k n (MF p Y) w) := by
 unfold field_reduced
 dsimp only
 refine gBind (R := fun z : List (List Int) × List Int => ∃ (k : Nat) (h : Nat → Nat), z.2 = (List.range k).map (fun i => ((h i : Nat) : Int)) ∧ MOk p r n z.1 ∧ ∃ c, GJ r n k h c (MF p X) (MF p z.1) ∧ (c = n ∨ k = r))
  (gFor n (fun c (s : List (List Int) × List Int × Int) => s.2.2 = (c : Int) ∧ ∃ (k : Nat) (h : Nat → Nat), s.2.1 = (List.range k).map (fun i => ((h i : Nat) : Int)) ∧ MOk p r n s.1 ∧ GJ r n k h c (MF p X) (MF p s.1)) (Nat.zero_le _)
   ⟨rfl, 0, fun _ => 0, rfl, hX, ⟨fun w => Iff.rfl, Nat.zero_le _, Nat.zero_le _, fun i j _ h => by omega, fun i h => by omega, fun i h => by omega, fun i a h => by omega, fun i j h => by omega, fun a j _ _ h => by omega⟩⟩ ?_) ?_
 ·rintro c ⟨Y, v, _⟩ hc ⟨rfl, k, h, hv, hY, hG⟩
  dsimp only at hv hY hG ⊢
  have hlen : v.length = k := by rw [hv]; simp
  have hl := hY.len
  have hkr := hG.kr
  simp only [hlen]
  refine gIte (fun h1 => ?_) fun h1 => gSome ⟨k, h, hv, hY, c, hG, by omega⟩
  have hcn : c < n := by omega
  have hk : k < r := by omega
  refine gBind (search_spec hY hcn hkr _ (fun v => rfl) hr) ?_
  rintro _ ⟨e, rfl, e1, e2, e3, e4⟩
  refine gIte (fun h2 => ?_) fun h2 => ?_
  ·exact gChk ⟨by omega, by omega⟩ (gSome ⟨hcn, by simp, k, h, hv, hY, hG.skip hcn fun a ha har => e3 a ha (by omega)⟩)
  have her : e < r := by omega
  simp only [toNat_nat]
  have hS := hY.swap hk her
  have hMS := MF_swap hY hk her
  obtain ⟨Y1, hY1⟩ : ∃ Y1, Y1 = (Y.set k (Y.getD e [])).set e (Y.getD k []) := ⟨_, rfl⟩
  rw [← hY1] at hS hMS ⊢
  have hl1 := hS.len
  have b1 := hS.bd k hk c hcn
  refine gChk ⟨by omega, by omega⟩ (gChk ⟨by omega, by omega⟩ (gChk ⟨by omega, by omega⟩ (gChk ⟨by omega, by omega⟩ (gChk ⟨⟨by omega, by omega⟩, by omega, by rw [hS.row k hk]; omega⟩ ?_))))
  have ee : (Y1.getD k []).getD c 0 = ent Y1 k c := rfl
  rw [ee]
  refine gBind (finverse_spec hp h7 b1) ?_
  rintro y ⟨hy1, hy2⟩
  have hne : MF p Y1 k c ≠ 0 := by
   rw [hMS]
   have : sw k e k = e := by unfold sw; split <;> simp_all
   rw [this]; exact e4 her
  have hy3 := hy2 hne
  refine gChk ⟨by omega, by omega⟩ ?_
  rw [hS.row k hk]
  refine gBind (scale_spec h7 hn hS hk hy1 _ (fun v v5 => rfl)) ?_
  rintro Y2 ⟨hM2, h2'⟩
  have hl2 := hM2.len
  refine gBind (R := fun Y3 => MOk p r n Y3 ∧ ∀ a, a < r → ∀ b, b < n → MF p Y3 a b = if a = k then MF p Y2 a b else MF p Y2 a b - MF p Y2 a c * MF p Y2 k b) ?_ ?_
  ·refine gFor r (fun i (s : List (List Int) × Int) => s.2 = (i : Int) ∧ MOk p r n s.1 ∧ ∀ a, a < r → ∀ b, b < n → MF p s.1 a b = if a ≠ k ∧ a < i then MF p Y2 a b - MF p Y2 a c * MF p Y2 k b else MF p Y2 a b) (Nat.zero_le _) ⟨rfl, hM2, fun a ha b hb => by rw [if_neg (by omega)]⟩ ?_
   rintro i ⟨Z, _⟩ hi ⟨rfl, hZ, hZ2⟩
   dsimp only at hZ hZ2 ⊢
   have hlZ := hZ.len
   refine gIte (fun h3 => ?_) fun h3 => ?_
   rotate_left
   ·refine gSome ⟨hZ, fun a ha b hb => ?_⟩
    rw [hZ2 a ha b hb]
    by_cases q : a = k
    ·rw [if_pos q, if_neg (fun w => w.1 q)]
    ·rw [if_neg q, if_pos ⟨q, by omega⟩]
   have hir : i < r := by omega
   have bz := hZ.bd i hir c hcn
   have ez : (Z.getD i []).getD c 0 = ent Z i c := rfl
   simp only [toNat_nat, ez]
   refine gChk ⟨⟨by omega, by omega⟩, by omega, by rw [hZ.row i hir]; omega⟩ ?_
   have zc : MF p Z i c = MF p Y2 i c := by have := hZ2 i hir c hcn; rw [if_neg (by omega)] at this; exact this
   refine gIte (fun h4 => ?_) fun h4 => ?_
   ·refine gSome ⟨hir, by simp, hZ, fun a ha b hb => ?_⟩
    rw [hZ2 a ha b hb]
    by_cases q : a ≠ k ∧ a < i
    ·rw [if_pos q, if_pos ⟨q.1, by omega⟩]
    ·rw [if_neg q]
     by_cases q2 : a ≠ k ∧ a < i + 1
     ·have ai : a = i := by omega
      have z0 : MF p Y2 a c = 0 := by
       rw [ai, ← zc]
       exact (cF_eq0 bz).2 (h4.resolve_left fun w => q2.1 (by omega))
      rw [if_pos q2, z0, fb5]
     ·rw [if_neg q2]
   ·have hik : i ≠ k := fun w => h4 (.inl (by omega))
    refine gChk ⟨by omega, by omega⟩ ?_
    rw [hZ.row i hir]
    refine gBind (frowop_spec h7 hn hZ hk hir hik bz _ (fun v v7 => rfl)) ?_
    rintro W ⟨hW, hW2⟩
    refine gSome ⟨hir, by simp, hW, fun a ha b hb => ?_⟩
    rw [hW2 a ha b hb]
    by_cases q : a = i
    ·have zr : MF p Z k b = MF p Y2 k b := by have := hZ2 k hk b hb; rw [if_neg (fun w => w.1 rfl)] at this; exact this
     have za : MF p Z a b = MF p Y2 a b := by have := hZ2 a ha b hb; rw [if_neg (by omega)] at this; exact this
     rw [if_pos q, if_pos ⟨by rw [q]; exact hik, by omega⟩, za, zr, q]
     have : cF p (ent Z i c) = MF p Y2 i c := zc
     rw [this]
    ·rw [if_neg q, hZ2 a ha b hb]
     by_cases q2 : a ≠ k ∧ a < i
     ·rw [if_pos q2, if_pos ⟨q2.1, by omega⟩]
     ·rw [if_neg q2, if_neg (by omega)]
  ·rintro Y3 ⟨hM3, h3'⟩
   refine gChk (by rw [List.length_append, hlen]; simp; omega) (gChk ⟨by omega, by omega⟩ (gSome ⟨hcn, by simp, k + 1, fun i => if i = k then c else h i, ?_, hM3, hG.pivot hcn hk e1 her (fun i hi j hj => hMS i j) hy3 h2' h3'⟩))
   dsimp only
   rw [List.range_succ, List.map_append, hv]
   congr 1
   ·exact List.map_congr_left fun i hi => by have := List.mem_range.1 hi; rw [if_neg (by omega)]
   ·simp
 ·rintro ⟨Y, v⟩ ⟨k, h, hv, hY, c, hG, hce⟩
  dsimp only at hv hY hG ⊢
  have hlen : v.length = k := by rw [hv]; simp
  have hl := hY.len
  have hkr := hG.kr
  simp only [hlen, toNat_nat]
  refine gChk ⟨by omega, by omega⟩ (gChk ⟨by omega, by omega⟩ (gSome ⟨k, h, Y.take k, hkr, by rw [hv], hY.take hkr, (hG.fin hce).1.congr fun i hi j => MF_take hi j, fun w => ?_⟩))
  rw [(hG.fin hce).2]
  constructor
  ·intro hw i hi
   rw [Sm_congr fun j hj => by rw [MF_take hi j]]; exact hw i hi
  ·intro hw i hi
   rw [Sm_congr fun j hj => by rw [← MF_take (X := Y) hi j]]; exact hw i hi
end
theorem setI_getD {l : List Int} {k : Nat} (v : Int) (hk : k < l.length) (j : Nat) : (l.set k v).getD j 0 = if j = k then v else l.getD j 0 := by
 simp only [List.getD_eq_getElem?_getD, List.getElem?_set]
 by_cases e : k = j
 ·subst e; simp [hk]
 ·rw [if_neg e, if_neg (fun e' => e e'.symm)]
section
variable {p : Nat} [NeZero p]
theorem MOk.ext {r n : Nat} {X Y : List (List Int)} (hX : MOk p r n X) (hY : MOk p r n Y) (h : ∀ i, i < r → ∀ j, j < n → MF p X i j = MF p Y i j) : X = Y := by
 have row : ∀ {Z : List (List Int)} {i : Nat} (hi : i < Z.length), Z[i] = Z.getD i [] := fun hi => by rw [List.getD_eq_getElem?_getD, List.getElem?_eq_getElem hi]; rfl
 refine List.ext_getElem (by rw [hX.len, hY.len]) fun i h1 h2 => ?_
 have hir : i < r := by rw [← hX.len]; exact h1
 rw [row h1, row h2]
 refine List.ext_getElem (by rw [hX.row i hir, hY.row i hir]) fun j h3 h4 => ?_
 have hjn : j < n := by rw [← hX.row i hir]; exact h3
 have e := (cF_eq (hX.bd i hir j hjn) (hY.bd i hir j hjn)).1 (h i hir j hjn)
 unfold ent at e
 rw [List.getD_eq_getElem?_getD (l := X.getD i []), List.getD_eq_getElem?_getD (l := Y.getD i []), List.getElem?_eq_getElem h3, List.getElem?_eq_getElem h4] at e
 exact e
theorem CM.bad {P C : Int} {X : List (List Int)} (h : ¬ CM P C X) : Gets (kinds_CheckMatrix P C X) (fun e => e ≠ 0) :=
 (CheckMatrix_spec P C X).mono fun e he q => h (he.2.1 q)
theorem CM.good {P C : Int} {X : List (List Int)} (h : CM P C X) : Gets (kinds_CheckMatrix P C X) (fun e => e = 0) :=
 (CheckMatrix_spec P C X).mono fun e he => he.2.2 h
/-- Rows with heads that tell as much as X. -/
def RedOf (p : Nat) [NeZero p] (r n : Nat) (X : List (List Int)) (k : Nat) (h : Nat → Nat) (Y : List (List Int)) : Prop := k ≤ r ∧ MOk p k n Y ∧ Rr k n h (MF p Y) ∧ ∀ w, Ker r n (MF p X) w ↔ Ker k n (MF p Y) w
theorem Reduced_spec (hp : Fld p) (h7 : p ≤ 7) {r n : Nat} {X : List (List Int)} (hX : MOk p r n X) (hr : r ≤ 6) (hn : n ≤ 8) (hc : CM p n X) : Gets (field_Reduced p n X) (fun y => ∃ (k : Nat) (h : Nat → Nat) (Y : List (List Int)), y = ((p : Int), (n : Int), Y, 0) ∧ RedOf p r n X k h Y) := by
 unfold field_Reduced
 refine gBind hc.good fun e he => gIte (fun q => absurd he q) fun _ => ?_
 refine gBind (field_twin_spec hX hr hn _ _) ?_
 rintro _ rfl
 refine gBind (field_reduced_spec hp h7 hX hr hn) ?_
 rintro _ ⟨k, h, Y, h1, rfl, h2, h3, h4⟩
 exact gSome ⟨k, h, Y, rfl, h1, h2, h3, h4⟩
end
section
variable {p : Nat} [NeZero p]
theorem cx2 (a b c d : Fin p) : a * (b - c * d) = a * b - a * c * d := by grind
theorem cx3 (a b : Fin p) : a - 0 * b = a := by grind
theorem cx4 (b : Fin p) : (0 : Fin p) - 0 * b = 0 := by grind
theorem cx6 (a : Fin p) : (1 : Fin p) - 1 = 0 := by grind
theorem cx7 (a : Fin p) : a * 1 = a := by grind
theorem cx8 (a : Fin p) : 0 * a = 0 := by grind
theorem cx10 (a : Fin p) : a * 0 = 0 := by grind
theorem ind_ne {r n : Nat} {X : List (List Int)} {s : Nat} (h : ¬ ColInd p r n X s) : ∃ v : Nat → Fin p, Ker r n (MF p X) v ∧ (∀ j, j < n → s.testBit j = false → v j = 0) ∧ ∃ j, j < n ∧ v j ≠ 0 := by
 apply Classical.byContradiction
 intro hno
 exact h fun v h1 h2 j hj => Classical.byContradiction fun q => hno ⟨v, h1, h2, j, hj, q⟩
theorem col_span (hp : Fld p) {r n : Nat} {X : List (List Int)} {I j : Nat} (hj : j < n) (h1 : ColInd p r n X I) (h2 : I.testBit j = true ∨ ¬ ColInd p r n X (I ||| 2 ^ j)) :
  ∃ l : Nat → Fin p, (∀ i, i < n → I.testBit i = false → l i = 0) ∧ ∀ i, i < r → Sm n (fun k => MF p X i k * l k) = MF p X i j := by
 rcases h2 with h2 | h2
 ·refine ⟨fun k => if k = j then 1 else 0, fun i _ hi => if_neg fun e => (by rw [e, h2] at hi; cases hi), fun i hi => ?_⟩
  rw [Sm_one (k := j) hj fun k hk hne => by simp only [if_neg hne]; exact cx10 _]
  simp only [if_true]
  exact cx7 _
 ·obtain ⟨v, v1, v2, x, x1, x2⟩ := ind_ne h2
  have hsup : ∀ i, i < n → I.testBit i = false → i ≠ j → v i = 0 := fun i hi hb hne => v2 i hi (by
   rw [Nat.testBit_or, hb, testBit_pow, Bool.false_or]
   exact decide_eq_false fun e => hne e.symm)
  have hvj : v j ≠ 0 := fun e => x2 (h1 v v1 (fun i hi hb => by
   by_cases c : i = j
   ·rw [c]; exact e
   ·exact hsup i hi hb c) x x1)
  obtain ⟨b, hb⟩ := hp.inv _ hvj
  refine ⟨fun k => (if k = j then 1 else 0) - v k * b, fun i hi hI => ?_, fun i hi => ?_⟩
  ·by_cases c : i = j
   ·simp only [if_pos c]; rw [c, hb]; exact cx6 1
   ·simp only [if_neg c]; rw [hsup i hi hI c]; exact cx4 _
  ·rw [Sm_congr (g := fun k => MF p X i k * (if k = j then 1 else 0) - MF p X i k * v k * b) fun k hk => cx2 _ _ _ _, Sm_sub, Sm_mulr, v1 i hi, cx3,
    Sm_one (k := j) hj fun k hk hne => by rw [if_neg hne]; exact cx10 _, if_pos rfl, cx7]
theorem col_aug (hp : Fld p) {r n : Nat} {X : List (List Int)} {I J : Nat} (hI : I < 2 ^ n) (hJ : J < 2 ^ n) (h1 : ColInd p r n X I) (h2 : ColInd p r n X J) (hc : cnt n I < cnt n J) :
  ∃ e, J.testBit e = true ∧ I.testBit e = false ∧ ColInd p r n X (I ||| 2 ^ e) := by
 apply Classical.byContradiction
 intro hno
 have span : ∀ j, ∃ l : Nat → Fin p, J.testBit j = true → (∀ i, i < n → I.testBit i = false → l i = 0) ∧ ∀ i, i < r → Sm n (fun k => MF p X i k * l k) = MF p X i j := fun j => by
  by_cases q : J.testBit j = true
  ·obtain ⟨l, l1, l2⟩ := col_span hp (bit_lt hJ q) h1 (by
    cases w : I.testBit j with
    | true => exact .inl rfl
    | false => exact .inr fun z => hno ⟨j, q, w, z⟩)
   exact ⟨l, fun _ => ⟨l1, l2⟩⟩
  ·exact ⟨fun _ => 0, fun w => absurd w q⟩
 obtain ⟨l, hl⟩ := Classical.axiomOfChoice span
 have hcp := cpl_cnt (m := n) (s := J)
 have hcj := cnt_le n J
 obtain ⟨c, ⟨x, x1, x2⟩, c2⟩ := nontriv hp (cnt n I + cnt n (cpl n J)) n (fun x q => if q < cnt n I then (if J.testBit x = true then l x ((elm n I).getD q 0) else 0) else (if x = (elm n (cpl n J)).getD (q - cnt n I) 0 then 1 else 0)) (by omega)
 have idx : ∀ {s y : Nat}, y < n → s.testBit y = true → cnt y s < cnt n s := fun {s y} hy hb => by
  have e : cnt (y + 1) s = cnt y s + 1 := by rw [cnt, if_pos hb]
  have := cnt_up s (show y + 1 ≤ n by omega)
  omega
 have off : ∀ y, y < n → J.testBit y = false → c y = 0 := fun y hy hb => by
  have hb' : (cpl n J).testBit y = true := by rw [cpl_bit, hb]; simp [hy]
  have hq := idx hy hb'
  have := c2 (cnt n I + cnt y (cpl n J)) (by omega)
  rw [Sm_one (k := y) hy fun i hi hne => ?_] at this
  ·rw [if_neg (by omega), Nat.add_sub_cancel_left, elm_at hy hb', if_pos rfl, cx7] at this
   exact this
  ·rw [if_neg (by omega), Nat.add_sub_cancel_left, elm_at hy hb', if_neg hne, cx10]
 have onI : ∀ k, k < n → Sm n (fun y => c y * l y k) = 0 := fun k hk => by
  by_cases q : I.testBit k = true
  ·have hq := idx hk q
   have := c2 (cnt k I) (by omega)
   rw [← this]
   refine Sm_congr fun y hy => ?_
   rw [if_pos hq, elm_at hk q]
   by_cases w : J.testBit y = true
   ·rw [if_pos w]
   ·rw [off y hy (by simpa using w), cx8, cx8]
  ·refine Sm_zero fun y hy => ?_
   by_cases w : J.testBit y = true
   ·rw [(hl y w).1 k hk (by simpa using q), cx10]
   ·rw [off y hy (by simpa using w), cx8]
 have hker : Ker r n (MF p X) c := fun i hi => by
  rw [Sm_congr (g := fun y => Sm n (fun k => MF p X i k * (c y * l y k))) fun y hy => ?_]
  ·rw [Sm_comm]
   refine Sm_zero fun k hk => ?_
   rw [Sm_mul, onI k hk, cx10]
  ·by_cases w : J.testBit y = true
   ·rw [← (hl y w).2 i hi, ← Sm_mulr]
    exact Sm_congr fun k hk => cx11 _ _ _
   ·rw [off y hy (by simpa using w), cx10, Sm_zero fun k hk => ?_]
    rw [cx8, cx10]
 exact x2 (h2 c hker (fun j hj hb => off j hj hb) x x1)
where
 cx11 (a b c : Fin p) : a * b * c = a * (c * b) := by grind
theorem ColInd.sub {r n : Nat} {X : List (List Int)} {s t : Nat} (h : Inc s t) (ht : ColInd p r n X t) : ColInd p r n X s := fun v v1 v2 => ht v v1 fun j hj hb => v2 j hj (by
 cases q : s.testBit j with
 | false => rfl
 | true => have := h j q; rw [hb] at this; cases this)
end
section
variable {p : Nat} [NeZero p]
end
theorem axioms_ranks_spec {m : Nat} {B : List Nat} (hf : Fam m B) : axioms_ranks m (cs B) = some (cs (rkL m B)) := by
 refine Gets.eq ?_
 have h256 := pow_le8 hf.m8
 have h8 := hf.m8
 have hlen := hf.len
 have hpos : 0 < 2 ^ m := Nat.pow_pos (by omega)
 unfold axioms_ranks
 simp only [toNat_nat, shl_nat', List.length_replicate, cs_len, cs_get]
 refine gChk (by omega) (gBind (R := fun o => o = cs (rkL m B)) (gFor (2 ^ m) (fun k x => x.2 = (k : Int) ∧ x.1.length = 2 ^ m ∧ (∀ j, j < k → x.1.getD j 0 = ((rk m B j : Nat) : Int)) ∧ ∀ j, k ≤ j → j < 2 ^ m → x.1.getD j 0 = 0) (Nat.zero_le _) ⟨rfl, by simp, none_all, fun j _ hj => ?_⟩ ?_) fun o ho => gSome ho)
 ·simp [List.getD_eq_getElem?_getD, List.getElem?_replicate, hj]
 ·rintro k ⟨x, _⟩ hk ⟨rfl, hxl, hlo, hhi⟩
  simp only at hxl hlo hhi ⊢
  refine gIte (fun h1 => ?_) fun h1 => gSome ?_
  ·have hk' : k < 2 ^ m := by omega
   refine gBind (R := fun o => o.length = 2 ^ m ∧ (∀ j, j ≠ k → o.getD j 0 = x.getD j 0) ∧ o.getD k 0 = ((rk m B k : Nat) : Int))
    (gFor B.length (fun i y => y.2 = (i : Int) ∧ y.1.length = 2 ^ m ∧ (∀ j, j ≠ k → y.1.getD j 0 = x.getD j 0) ∧ y.1.getD k 0 = ((rk m (B.take i) k : Nat) : Int)) (Nat.zero_le _) ⟨rfl, hxl, fun _ _ => rfl, ?_⟩ ?_) ?_
   ·simp only; rw [hhi k (Nat.le_refl _) hk']; rfl
   ·rintro i ⟨y, _⟩ hi ⟨rfl, hyl, hne, hkk⟩
    simp only at hyl hne hkk ⊢
    refine gIte (fun h2 => gChk (by omega) (gChk (by omega) ?_)) fun h2 => gSome ⟨hyl, hne, by rw [hkk, List.take_of_length_le (by omega)]⟩
    have hi' : i < B.length := by omega
    have hlt := hf.lt _ (mem_getD.2 ⟨i, hi', rfl⟩)
    simp only [toNat_nat, and_nat]
    rw [axioms_size_nat (by have := and_lt (b := B.getD i 0) hk'; omega)]
    simp only [Option.bind_some]
    refine gChk (by omega) (gSome ⟨hi', by simp, by simpa using hyl, fun j hj => ?_, ?_⟩)
    ·rw [set_getD _ (by omega), if_neg hj]; exact hne j hj
    ·rw [set_getD _ (by omega), if_pos rfl, hkk, rk_take_succ m B k hi', size_of_lt (and_lt hk') h8]
     omega
   ·rintro o ⟨h2, h3, h4⟩
    refine gSome ⟨hk', by simp, h2, step_all (fun j hj => by rw [h3 j (by omega)]; exact hlo j hj) h4, fun j hj hj' => by rw [h3 j (by omega)]; exact hhi j (by omega) hj'⟩
  ·have : k = 2 ^ m := by omega
   subst this
   refine list_ext_getD (by rw [hxl, cs_len, rkL_len]) fun i hi => ?_
   rw [hlo i (by omega), cs_get, rkL_get m B (by omega)]
theorem axioms_Ranks_ok {m : Nat} {B : List Nat} (h : Mat m B) : axioms_Ranks m (cs B) = some (cs (rkL m B), 0) := by
 unfold axioms_Ranks
 rw [h.check]
 simp [axioms_ranks_spec h.toFam]
/-- The sets of a kind. -/
theorem axioms_family_spec (n : Int) (l : List Int) (hl : l.length ≤ 9223372036854775807) (kind : List Int → Int → Option Bool) (K : Nat → List Nat → Nat → Prop) [∀ m B s, Decidable (K m B s)]
    (hk : ∀ m B, n = (m : Nat) → l = cs B → Mat m B → ∀ s, s < 2 ^ m → kind (cs (rkL m B)) (s : Nat) = some (decide (K m B s))) :
    Gets (axioms_family n l kind) (fun r => (r.2 = 0 ∧ ∃ m B, n = (m : Nat) ∧ l = cs B ∧ Mat m B ∧ r.1 = cs ((List.range (2 ^ m)).filter fun s => K m B s)) ∨ (r.2 ≠ 0 ∧ r.1 = [] ∧ ¬ ∃ m B, n = (m : Nat) ∧ l = cs B ∧ Mat m B)) := by
  unfold axioms_family
  refine gBind (axioms_Check_spec n l hl) fun y hy => gIte (fun h => gSome (.inr ⟨h, rfl, ?_⟩)) fun h => ?_
  · rcases hy with ⟨q, _⟩ | ⟨_, q⟩
    · exact absurd q h
    · exact q
  · rcases hy with ⟨_, m, B, rfl, rfl, hM⟩ | ⟨q, _⟩
    · have h256 := pow_le8 hM.m8
      rw [axioms_ranks_spec hM.toFam]
      simp only [Option.bind_some, cs_len, rkL_len]
      refine gBind (R := fun o => o = cs ((List.range (2 ^ m)).filter fun s => K m B s)) (gFor (2 ^ m) (fun k x => x.2 = (k : Int) ∧ x.1 = cs ((List.range k).filter fun s => K m B s)) (Nat.zero_le _) ⟨rfl, rfl⟩ ?_) fun o ho => gSome (.inl ⟨rfl, m, B, rfl, rfl, hM, ho⟩)
      rintro k ⟨_, _⟩ hk' ⟨rfl, rfl⟩
      simp only
      refine gIte (fun h1 => ?_) fun h1 => gSome (by have : k = 2 ^ m := by omega
                                                     subst this; rfl)
      have hk2 : k < 2 ^ m := by omega
      rw [hk m B rfl rfl hM k hk2]
      simp only [Option.bind_some, decide_eq_true_eq]
      have hle : ((List.range k).filter fun s => K m B s).length ≤ k := by
        have := List.length_filter_le (fun s => decide (K m B s)) (List.range k)
        simpa using this
      refine gIte (fun h2 => gChk (by simp; omega) (gSome ⟨hk2, by simp, ?_⟩)) fun h2 => gSome ⟨hk2, by simp, ?_⟩
      · rw [List.range_succ, List.filter_append, cs_app]; simp [h2]
      · rw [List.range_succ, List.filter_append]; simp [h2]
    · exact absurd q h
/-- Each other element makes more of it. -/
def Flat (m : Nat) (B : List Nat) (s : Nat) : Prop := ∀ i, i < m → s.testBit i = false → rk m B (s ||| 2 ^ i) ≠ rk m B s
instance (m : Nat) (B : List Nat) (s : Nat) : Decidable (Flat m B s) := by unfold Flat; infer_instance
theorem testBit_iff_bit (s i : Nat) : iand ((s : Int) / 2 ^ i) 1 = 0 ↔ s.testBit i = false := by
 have := bit_nat s i
 rw [toNat_nat] at this
 rw [this]; cases s.testBit i <;> simp
theorem axioms_flat_nat {m : Nat} (B : List Nat) (h8 : m ≤ 8) {s : Nat} (hs : s < 2 ^ m) : axioms_flat (cs (rkL m B)) m s = some (decide (Flat m B s)) := by
 have h256 := pow_le8 h8
 refine Gets.eq ?_
 unfold axioms_flat
 simp only [cs_len, rkL_len]
 refine gBind (R := fun z => match z with | .inl _ => Flat m B s | .inr r => r = false ∧ ¬ Flat m B s)
  (gFor m (fun k v => v = (k : Int) ∧ ∀ i, i < k → s.testBit i = false → rk m B (s ||| 2 ^ i) ≠ rk m B s) (Nat.zero_le _) ⟨rfl, none_all⟩ ?_) ?_
 ·rintro k _ hk ⟨rfl, hb⟩
  refine gIte (fun h1 => ?_) fun h1 => gSome fun i hi => hb i (by omega)
  have hkm : k < m := by omega
  have hl := or_lt hs (pow_lt hkm)
  simp only [toNat_nat, shl_nat', or_nat]
  rw [← shl_nat']
  simp only [testBit_iff_bit, cs_get, rkL_get m B hl, rkL_get m B hs]
  refine gChk (by omega) (gIte (fun h2 => gSome ⟨rfl, fun h3 => h3 k hkm h2.1 (by omega)⟩) fun h2 => gSome ⟨hkm, by simp, step_all hb fun h3 h4 => h2 ⟨h3, by omega⟩⟩)
 ·rintro (u | rr) hz
  ·exact gSome (decide_eq_true hz).symm
  ·exact gSome (by rw [hz.1, decide_eq_false hz.2])
theorem axioms_Flats_spec (n : Int) (l : List Int) (hl : l.length ≤ 9223372036854775807) :
  Gets (axioms_Flats n l) (fun r => (r.2 = 0 ∧ ∃ m B, n = (m : Nat) ∧ l = cs B ∧ Mat m B ∧ r.1 = cs ((List.range (2 ^ m)).filter fun s => Flat m B s)) ∨ (r.2 ≠ 0 ∧ r.1 = [] ∧ ¬ ∃ m B, n = (m : Nat) ∧ l = cs B ∧ Mat m B)) := by
 unfold axioms_Flats
 refine gBind (axioms_family_spec n l hl _ Flat ?_) fun r hr => gSome hr
 rintro m B rfl rfl hM s hs
 unfold axioms_Flats_1
 rw [axioms_flat_nat B hM.m8 hs]; rfl
section
variable {m : Nat} {B : List Nat} (h : Mat m B)
include h
/-- What makes no more of a set makes no more of a greater one. -/
theorem Mat.rk_stay {s t i : Nat} (hst : Inc s t) (he : rk m B (s ||| 2 ^ i) = rk m B s) : rk m B (t ||| 2 ^ i) = rk m B t := by
 have h1 := h.rk_sub t (s ||| 2 ^ i)
 have e : t ||| (s ||| 2 ^ i) = t ||| 2 ^ i := by
  rw [← Nat.or_assoc]; congr 1
  rw [Nat.or_comm]; exact (or_eq_iff s t).2 hst
 rw [e] at h1
 have h2 : rk m B s ≤ rk m B (t &&& (s ||| 2 ^ i)) := h.rk_mono (inc_and hst (inc_or_l _ _))
 have h3 : rk m B t ≤ rk m B (t ||| 2 ^ i) := h.rk_mono (inc_or_l _ _)
 omega
end
def flats (m : Nat) (B : List Nat) : List Nat := (List.range (2 ^ m)).filter fun s => Flat m B s
theorem mem_flats {m : Nat} {B : List Nat} {s : Nat} : s ∈ flats m B ↔ s < 2 ^ m ∧ Flat m B s := by simp [flats]
theorem Flats_ok {m : Nat} {B : List Nat} (h : Mat m B) (hl : B.length ≤ 9223372036854775807) : axioms_Flats m (cs B) = some (cs (flats m B), 0) := by
 refine Gets.eq ((axioms_Flats_spec m (cs B) (by simpa using hl)).mono fun r hr => ?_)
 rcases hr with ⟨h1, m', B', q1, q2, _, q3⟩ | ⟨_, _, q⟩
 ·have : m' = m := by omega
  subst this
  rw [← cs_inj q2] at q3
  exact Prod.ext q3 h1
 ·exact absurd ⟨m, B, rfl, rfl, h⟩ q
section
variable {m : Nat} {B : List Nat} (h : Mat m B)
include h
theorem Mat.flat_and {a b : Nat} (ha : Flat m B a) (hb : Flat m B b) : Flat m B (a &&& b) := by
 intro i hi hf e
 rw [Nat.testBit_and, Bool.and_eq_false_iff] at hf
 rcases hf with q | q
 ·exact ha i hi q (h.rk_stay (inc_and_l a b) e)
 ·exact hb i hi q (h.rk_stay (inc_and_r a b) e)
end
/-- How many sets lie within one. -/
theorem count_subsets : ∀ (m s : Nat), (List.range (2 ^ m)).countP (fun t => decide (Inc t s)) = 2 ^ cnt m s := by
 intro m
 induction m with
 | zero =>
  intro s
  have : decide (Inc 0 s) = true := decide_eq_true (inc_zero s)
  simp [cnt, List.range_succ, this]
 | succ m ih =>
  intro s
  have e : 2 ^ (m + 1) = 2 ^ m + 2 ^ m := by rw [Nat.pow_succ]; omega
  rw [e, List.range_add, List.countP_append, List.countP_map, ih s]
  have key : ∀ t, t < 2 ^ m → (Inc (2 ^ m + t) s ↔ s.testBit m = true ∧ Inc t s) := fun t ht => by
   have eo : 2 ^ m + t = 2 ^ m ||| t := by
    have h := Nat.two_pow_add_eq_or_of_lt ht 1
    simpa using h
   rw [eo]
   constructor
   ·intro h
    exact ⟨h m (by rw [Nat.testBit_or, testBit_pow]; simp), (inc_or_r _ _).trans h⟩
   ·rintro ⟨h1, h2⟩
    exact inc_or (inc_pow h1) h2
  have e2 : (List.range (2 ^ m)).countP ((fun t => decide (Inc t s)) ∘ fun x => 2 ^ m + x) = if s.testBit m = true then 2 ^ cnt m s else 0 := by
   split
   ·rename_i hb
    rw [← ih s]
    refine List.countP_congr fun t ht => ?_
    have := key t (List.mem_range.1 ht)
    simp only [Function.comp_apply, decide_eq_true_eq]
    rw [this]; simp [hb]
   ·rename_i hb
    rw [List.countP_eq_zero]
    intro t ht
    have := key t (List.mem_range.1 ht)
    simp only [Function.comp_apply, decide_eq_true_eq]
    rw [this]; simp [hb]
  rw [e2]
  simp only [cnt]
  split
  ·rw [Nat.pow_succ]; omega
  ·rw [Nat.add_zero, Nat.add_zero]
theorem sumN_count (F : List Nat) (s : Nat) : ∀ i, i ≤ F.length → sumN i (fun k => if Inc (F.getD k 0) s then 1 else 0) = (((F.take i).countP (fun t => decide (Inc t s)) : Nat) : Int) := by
 intro i
 induction i with
 | zero => intro _; rfl
 | succ i ih =>
  intro hi
  have hi' : i < F.length := by omega
  have etake : F.take (i + 1) = F.take i ++ [F.getD i 0] := by
   rw [List.take_add_one, List.getD_eq_getElem?_getD, List.getElem?_eq_getElem hi']; rfl
  simp only [sumN]
  rw [ih (by omega), etake, List.countP_append]
  generalize F.getD i 0 = y at *
  by_cases h : Inc y s
  ·rw [if_pos h]; simp [h]
  ·rw [if_neg h]; simp [h]
theorem sumN_abs {n : Nat} {g : Nat → Int} {c : Int} (hg : ∀ i, i < n → -c ≤ g i ∧ g i ≤ c) : -(n * c) ≤ sumN n g ∧ sumN n g ≤ n * c := by
 induction n with
 | zero => simp [sumN]
 | succ n ih =>
  simp only [sumN]
  have h1 := ih fun i hi => hg i (by omega)
  have h2 := hg n (by omega)
  have e : ((n + 1 : Nat) : Int) * c = n * c + c := by rw [Int.natCast_add, Int.add_mul]; simp
  rw [e]; omega
/-- The numbers, one behind the other. -/
def mobL (F : List Nat) : Nat → List Int
 | 0 => []
 | i + 1 => mobL F i ++ [if i = 0 then 1 else - sumN i (fun k => if Inc (F.getD k 0) (F.getD i 0) then (mobL F i).getD k 0 else 0)]
theorem mobL_len (F : List Nat) : ∀ i, (mobL F i).length = i
 | 0 => rfl
 | i + 1 => by simp only [mobL, List.length_append, mobL_len F i]; rfl
def mob (F : List Nat) (i : Nat) : Int := (mobL F (i + 1)).getD i 0
theorem mobL_get (F : List Nat) {k : Nat} : ∀ {i : Nat}, k < i → (mobL F i).getD k 0 = mob F k := by
 intro i
 induction i with
 | zero => intro h; omega
 | succ i ih =>
  intro h
  rcases Nat.lt_or_ge k i with q | q
  ·rw [← ih q]
   simp only [mobL, List.getD_eq_getElem?_getD]
   rw [List.getElem?_append_left (by rw [mobL_len]; exact q)]
  ·have : k = i := by omega
   subst this; rfl
theorem mob_eq (F : List Nat) (i : Nat) : mob F i = if i = 0 then 1 else - sumN i (fun k => if Inc (F.getD k 0) (F.getD i 0) then mob F k else 0) := by
 have e : mob F i = if i = 0 then 1 else - sumN i (fun k => if Inc (F.getD k 0) (F.getD i 0) then (mobL F i).getD k 0 else 0) := by
  unfold mob
  simp only [mobL, List.getD_eq_getElem?_getD]
  rw [List.getElem?_append_right (by rw [mobL_len]; exact Nat.le_refl _), mobL_len, Nat.sub_self]
  rfl
 rw [e]
 split
 ·rfl
 ·congr 1
  exact sumN_congr fun k hk => by rw [mobL_get F hk]
section
variable {m : Nat} {F : List Nat} (hF : Fam m F)
include hF
def bdd : Nat → Nat
 | 0 => 1
 | c + 1 => 2 ^ (c + 1) * bdd c
omit hF in
theorem bdd_mono : ∀ {a b : Nat}, a ≤ b → bdd a ≤ bdd b := by
  intro a b h
  induction b with
  | zero => have : a = 0 := by omega
            subst this; exact Nat.le_refl _
  | succ b ih =>
    rcases Nat.lt_or_ge a (b + 1) with q | q
    · refine Nat.le_trans (ih (by omega)) ?_
      simp only [bdd]
      exact Nat.le_mul_of_pos_left _ (Nat.pow_pos (by omega))
    · have : a = b + 1 := by omega
      subst this; exact Nat.le_refl _
theorem Fam.mob_bound (hsub : F.Sublist (List.range (2 ^ m))) : ∀ i, i < F.length → -(bdd (cnt m (F.getD i 0)) : Int) ≤ mob F i ∧ mob F i ≤ bdd (cnt m (F.getD i 0)) := by
 intro i
 induction i using Nat.strongRecOn with
 | ind i ih =>
  intro hi
  have h1 : 1 ≤ bdd (cnt m (F.getD i 0)) := bdd_mono (Nat.zero_le _)
  rw [mob_eq]
  split
  ·omega
  ·have hsm := hF.lt _ (mem_getD.2 ⟨i, hi, rfl⟩)
   generalize hs : F.getD i 0 = s at *
   -- the sum, by the number of sets within
   have hc : (F.take i).countP (fun t => decide (Inc t s)) ≤ 2 ^ cnt m s := by
    rw [← count_subsets m s]
    exact ((List.take_sublist i F).trans hsub).countP_le
   have key : ∀ (c : Nat), cnt m s = c + 1 → ∀ k, k < i → Inc (F.getD k 0) s → -(bdd c : Int) ≤ mob F k ∧ mob F k ≤ bdd c := by
    intro c hcc k hk hin
    have hne : F.getD k 0 < s := by rw [← hs]; exact hF.rise k i hk hi
    have hlt : cnt m (F.getD k 0) < cnt m s := by
     rcases Nat.lt_or_ge (cnt m (F.getD k 0)) (cnt m s) with q | q
     ·exact q
     ·have := inc_eq_of_cnt (m := m) hin hsm q
      omega
    have h2 := ih k hk (by omega)
    have h3 := bdd_mono (show cnt m (F.getD k 0) ≤ c by omega)
    omega
   cases hcs : cnt m s with
   | zero =>
    have hz : sumN i (fun k => if Inc (F.getD k 0) s then mob F k else 0) = 0 := by
     rw [sumN_congr (h := fun _ => 0) fun k hk => ?_, sumN_zero]
     refine if_neg fun hin => ?_
     have hne : F.getD k 0 < s := by rw [← hs]; exact hF.rise k i hk hi
     have := inc_eq_of_cnt (m := m) hin hsm (by omega)
     omega
    rw [hz]; simp [bdd]
   | succ c =>
    have kk := key c hcs
    have lo : sumN i (fun k => if Inc (F.getD k 0) s then mob F k else 0) ≤ sumN i (fun k => (bdd c : Int) * if Inc (F.getD k 0) s then 1 else 0) := sumN_le fun k hk => by
     split
     ·rename_i hin; have := kk k hk hin; omega
     ·omega
    have up : sumN i (fun k => (-(bdd c : Int)) * if Inc (F.getD k 0) s then 1 else 0) ≤ sumN i (fun k => if Inc (F.getD k 0) s then mob F k else 0) := sumN_le fun k hk => by
     split
     ·rename_i hin; have := kk k hk hin; omega
     ·omega
    rw [sumN_mul, sumN_count F s i (by omega)] at lo up
    rw [hcs] at hc
    have hb : (bdd c : Int) * (((F.take i).countP (fun t => decide (Inc t s)) : Nat) : Int) ≤ ((2 ^ (c + 1) * bdd c : Nat) : Int) := by
     have := Nat.mul_le_mul_left (bdd c) hc
     rw [Nat.mul_comm (2 ^ (c + 1))]
     exact_mod_cast this
    rw [Int.neg_mul] at up
    simp only [bdd]
    omega
/-- They are small. -/
theorem Fam.mob_small (hsub : F.Sublist (List.range (2 ^ m))) {i : Nat} (hi : i < F.length) : -68719476736 ≤ mob F i ∧ mob F i ≤ 68719476736 := by
 have h := hF.mob_bound hsub i hi
 have h8 : bdd (cnt m (F.getD i 0)) ≤ bdd 8 := bdd_mono (Nat.le_trans (cnt_le _ _) hF.m8)
 have e : bdd 8 = 68719476736 := by decide
 omega
theorem Fam.part_small (hsub : F.Sublist (List.range (2 ^ m))) (s : Nat) {i : Nat} (hi : i ≤ F.length) : -17592186044416 ≤ sumN i (fun k => if Inc (F.getD k 0) s then mob F k else 0) ∧ sumN i (fun k => if Inc (F.getD k 0) s then mob F k else 0) ≤ 17592186044416 := by
 have h := sumN_abs (n := i) (g := fun k => if Inc (F.getD k 0) s then mob F k else 0) (c := 68719476736) fun k hk => by
  have := hF.mob_small hsub (i := k) (by omega)
  split <;> omega
 have hl := hF.len
 have : (i : Int) * 68719476736 ≤ 256 * 68719476736 := Int.mul_le_mul_of_nonneg_right (by omega) (by omega)
 omega
end
theorem cs_take (L : List Nat) (k : Nat) : (cs L).take k = cs (L.take k) := by simp [cs, List.map_take]
theorem take_getD (L : List Nat) {j k : Nat} (h : j < k) : (L.take k).getD j 0 = L.getD j 0 := by
 simp only [List.getD_eq_getElem?_getD, List.getElem?_take, if_pos h]
/-- The numbers up to k are there, x at k, nothing behind. -/
structure MB (F : List Nat) (k : Nat) (x : Int) (out : List Int) : Prop where
 len : out.length = F.length
 lo : ∀ i, i < k → out.getD i 0 = mob F i
 at_ : k < F.length → out.getD k 0 = x
 hi : ∀ i, k < i → i < F.length → out.getD i 0 = 0
theorem MB.start (F : List Nat) : MB F 0 0 (List.replicate F.length 0) := by
 have get : ∀ i, (List.replicate F.length (0 : Int)).getD i 0 = 0 := fun i => by
  rw [List.getD_eq_getElem?_getD, List.getElem?_replicate]; split <;> rfl
 exact ⟨by simp, fun i hi => by omega, fun _ => get _, fun i _ _ => get _⟩
theorem MB.set {F : List Nat} {k : Nat} {x : Int} {out : List Int} (h : MB F k x out) (hk : k < F.length) (y : Int) : MB F k y (out.set k y) := by
 have hk' : k < out.length := by rw [h.len]; exact hk
 refine ⟨by simp [h.len], fun i hi => ?_, fun _ => ?_, fun i hi hn => ?_⟩
 ·rw [set_getD _ hk', if_neg (by omega)]; exact h.lo i hi
 ·rw [set_getD _ hk', if_pos rfl]
 ·rw [set_getD _ hk', if_neg (by omega)]; exact h.hi i hi hn
theorem MB.next {F : List Nat} {k : Nat} {out : List Int} (h : MB F k (mob F k) out) (hk : k < F.length) : MB F (k + 1) 0 out :=
 ⟨h.len, fun i hi => by
  rcases Nat.lt_succ_iff_lt_or_eq.1 hi with c | rfl
  ·exact h.lo i c
  ·exact h.at_ hk, fun hk1 => h.hi _ (by omega) hk1, fun i hi hn => h.hi i (by omega) hn⟩
theorem MB.done {F : List Nat} {x : Int} {out : List Int} (h : MB F F.length x out) : out = mobL F F.length := by
 refine list_ext_getD (by rw [h.len, mobL_len]) fun i hi => ?_
 rw [h.len] at hi
 rw [h.lo i hi, mobL_get F hi]
section
variable {m : Nat} {F : List Nat} (hF : Fam m F) (hsub : F.Sublist (List.range (2 ^ m)))
include hF hsub
theorem mobius_ok (l0 : Int) (l3 : List Int) : flats_lattice_mobius l0 (cs F) l3 = some (mobL F F.length) := by
 refine Gets.eq ?_
 have hlen := hF.len
 unfold flats_lattice_mobius
 simp only [cs_len, toNat_nat]
 refine gChk (by omega) (gBind (R := fun o => o = mobL F F.length) (gFor F.length (fun k (x : List Int × Int) => x.2 = (k : Int) ∧ MB F k 0 x.1) (Nat.zero_le _) ⟨rfl, MB.start F⟩ ?_) fun o ho => gSome ho)
 rintro k ⟨out, _⟩ hk ⟨rfl, hmb⟩
 simp only at hmb ⊢
 have hol := hmb.len
 refine gIte (fun h1 => gChk (by omega) ?_) fun h1 => gSome (by have e : k = F.length := (by omega); subst e; exact hmb.done)
 have hk' : k < F.length := by omega
 refine gIte (fun h2 => gChk (by omega) (gSome ⟨hk', by simp, ?_⟩)) fun h2 => gChk (by omega) ?_
 ·have h0 : k = 0 := by omega
  subst h0
  exact MB.next (by rw [show mob F 0 = 1 by rw [mob_eq]; rfl]; exact hmb.set hk' 1) hk'
 ·simp only [toNat_nat, cs_take, cs_len, cs_get]
  have htl : (F.take k).length = k := by rw [List.length_take]; omega
  rw [htl]
  have hk0 : k ≠ 0 := by omega
  refine gBind (R := fun o => MB F k (mob F k) o) (gFor k (fun j (x : List Int × Int) => x.2 = (j : Int) ∧ MB F k (- sumN j (fun i => if Inc (F.getD i 0) (F.getD k 0) then mob F i else 0)) x.1) (Nat.zero_le _) ⟨rfl, by simpa [sumN] using hmb⟩ ?_) fun o ho => gSome ⟨hk', by simp, ho.next hk'⟩
  rintro j ⟨o2, _⟩ hj ⟨rfl, hm2⟩
  simp only at hm2 ⊢
  have ho2 := hm2.len
  refine gIte (fun h3 => gChk (by omega) ?_) fun h3 => gSome ?_
  ·have hj' : j < k := by omega
   simp only [toNat_nat, take_getD F hj', and_nat]
   have b1 := hF.part_small hsub (F.getD k 0) (i := j) (by omega)
   have b2 := hF.mob_small hsub (i := j) (by omega)
   have e1 := hm2.at_ hk'
   have e2 := hm2.lo j hj'
   refine gIte (fun h4 => gChk (by omega) (gSome ⟨hj', by simp, ?_⟩)) fun h4 => gSome ⟨hj', by simp, ?_⟩
   ·have hin : Inc (F.getD j 0) (F.getD k 0) := (sub_iff_and _ _).1 (by omega)
    show MB F k _ (o2.set k _)
    rw [e1, e2]
    simp only [sumN, if_pos hin]
    rw [show -(sumN j (fun i => if Inc (F.getD i 0) (F.getD k 0) then mob F i else 0) + mob F j) = -sumN j (fun i => if Inc (F.getD i 0) (F.getD k 0) then mob F i else 0) - mob F j by omega]
    exact hm2.set hk' _
   ·have hin : ¬ Inc (F.getD j 0) (F.getD k 0) := fun c => h4 (by rw [(sub_iff_and _ _).2 c])
    simp only [sumN, if_neg hin, Int.add_zero]
    exact hm2
  ·have : j = k := by omega
   subst this
   rw [mob_eq, if_neg hk0]; exact hm2
end
theorem flats_of_ok {m : Nat} {B : List Nat} (h : Mat m B) : flats_of m (cs B) = some ((m : Int), cs (flats m B), cs (rkL m B), 0) := by
 unfold flats_of
 rw [Flats_ok h (by have := h.len; omega), Option.bind_some, if_neg (by simp), axioms_Ranks_ok h]; rfl
def chr (m : Nat) (B : List Nat) : List Int :=
 if (flats m B).getD 0 0 = 0 then (List.range (rk m B (2 ^ m - 1) + 1)).map fun j => sumN (flats m B).length fun i => if rk m B (2 ^ m - 1) - rk m B ((flats m B).getD i 0) = j then mob (flats m B) i else 0
 else List.replicate (rk m B (2 ^ m - 1) + 1) 0
theorem chr_len (m : Nat) (B : List Nat) : (chr m B).length = rk m B (2 ^ m - 1) + 1 := by
 unfold chr; split <;> simp
theorem rank_ok {m : Nat} (B : List Nat) (h8 : m ≤ 8) (l0 : Int) (l2 : List Int) : flats_lattice_rank l0 l2 (cs (rkL m B)) = some ((rk m B (2 ^ m - 1) : Nat) : Int) := by
 have h256 := pow_le8 h8
 have hpos : 0 < 2 ^ m := Nat.pow_pos (by omega)
 unfold flats_lattice_rank
 simp only [cs_len, rkL_len]
 have e1 : (((2 ^ m : Nat) : Int) - 1).toNat = 2 ^ m - 1 := by omega
 rw [chk_pos (by omega), e1, cs_get, rkL_get m B (by omega)]
section
variable {m : Nat} {B : List Nat} (h : Mat m B)
include h
theorem Mat.flats_ne : 0 < (flats m B).length := by
 have hpos : 0 < 2 ^ m := Nat.pow_pos (by omega)
 have : 2 ^ m - 1 ∈ flats m B := mem_flats.2 ⟨by omega, fun i hi hb => by
  rw [Nat.testBit_two_pow_sub_one] at hb; simp [hi] at hb⟩
 have _ := h
 exact List.length_pos_of_mem this
theorem Mat.flat0 : (flats m B).getD 0 0 = 0 ↔ Flat m B 0 := by
 have hF : Fam m (flats m B) := filter_fam h.m8 _
 have hpos : 0 < 2 ^ m := Nat.pow_pos (by omega)
 constructor
 ·intro e
  have := (mem_flats.1 (mem_getD.2 ⟨0, h.flats_ne, rfl⟩)).2
  rwa [e] at this
 ·intro hz
  obtain ⟨k, k1, k2⟩ := mem_getD.1 (mem_flats.2 ⟨hpos, hz⟩)
  rcases Nat.eq_zero_or_pos k with c | c
  ·subst c; exact k2
  ·have := hF.rise 0 k c k1; omega
theorem Mat.rk_full {s : Nat} (hs : s < 2 ^ m) : rk m B s ≤ rk m B (2 ^ m - 1) := h.rk_mono fun i hi => by
 rw [Nat.testBit_two_pow_sub_one]; simpa using bit_lt hs hi
theorem Mat.Char_ok : flats_Characteristic m (cs B) = some (chr m B, 0) := by
 have h8 := h.m8
 have hF : Fam m (flats m B) := filter_fam h8 _
 have hsub : (flats m B).Sublist (List.range (2 ^ m)) := List.filter_sublist
 have hlen := hF.len
 have hne := h.flats_ne
 have hR := h.rk_size (2 ^ m - 1)
 have hR8 := cnt_le m (2 ^ m - 1)
 refine Gets.eq ?_
 unfold flats_Characteristic
 refine gBindE (flats_of_ok h) (gIte (fun q => absurd rfl q) fun _ => ?_)
 refine gBindE (rank_ok B h8 _ _) (gChk (by omega) (gChk (by simp; omega) ?_))
 have eR : (((rk m B (2 ^ m - 1) : Nat) : Int) + 1).toNat = rk m B (2 ^ m - 1) + 1 := by omega
 simp only [cs_get, eR]
 refine gIte (fun q => gSome ?_) fun q => ?_
 ·unfold chr; rw [if_neg (by omega)]
 ·have h0 : (flats m B).getD 0 0 = 0 := by omega
  refine gBindE (mobius_ok hF hsub _ _) ?_
  refine gBind (R := fun o => o = chr m B) (gFor (flats m B).length (fun k (x : List Int × Int) => x.2 = (k : Int) ∧ x.1.length = rk m B (2 ^ m - 1) + 1 ∧ ∀ j, j < rk m B (2 ^ m - 1) + 1 → x.1.getD j 0 = sumN k fun i => if rk m B (2 ^ m - 1) - rk m B ((flats m B).getD i 0) = j then mob (flats m B) i else 0) (Nat.zero_le _) ⟨rfl, by simp, fun j hj => by
   rw [List.getD_eq_getElem?_getD, List.getElem?_replicate]; simp [sumN, hj]⟩ ?_) fun o ho => gSome (by rw [ho])
  rintro k ⟨out, _⟩ hk ⟨rfl, i1, i2⟩
  simp only [mobL_len, cs_len, rkL_len, cs_get, toNat_nat] at i1 i2 ⊢
  refine gIte (fun h1 => gChk (by omega) ?_) fun h1 => gSome ?_
  ·have hk' : k < (flats m B).length := by omega
   obtain ⟨f1, f2⟩ := mem_flats.1 (mem_getD.2 ⟨k, hk', rfl⟩)
   have hrf := h.rk_full f1
   rw [rank_ok B h8]
   simp only [Option.bind_some, rkL_get m B f1]
   have ej : (((rk m B (2 ^ m - 1) : Nat) : Int) - ((rk m B ((flats m B).getD k 0) : Nat) : Int)).toNat = rk m B (2 ^ m - 1) - rk m B ((flats m B).getD k 0) := by omega
   have hj : rk m B (2 ^ m - 1) - rk m B ((flats m B).getD k 0) < rk m B (2 ^ m - 1) + 1 := by omega
   rw [ej, i2 _ hj, mobL_get _ hk']
   have b1 := sumN_abs (n := k) (g := fun i => if rk m B (2 ^ m - 1) - rk m B ((flats m B).getD i 0) = rk m B (2 ^ m - 1) - rk m B ((flats m B).getD k 0) then mob (flats m B) i else 0) (c := 68719476736) fun i hi => by
    have := hF.mob_small hsub (i := i) (by omega)
    split <;> omega
   have b2 := hF.mob_small hsub hk'
   have b3 : (k : Int) * 68719476736 ≤ 256 * 68719476736 := Int.mul_le_mul_of_nonneg_right (by omega) (by omega)
   refine gChk ⟨by omega, by omega, by omega, by omega, by omega⟩ (gSome ⟨hk', by simp, by simp [i1], fun j hj2 => ?_⟩)
   rw [set_getD _ (by omega)]
   simp only [sumN]
   by_cases e : j = rk m B (2 ^ m - 1) - rk m B ((flats m B).getD k 0)
   ·rw [if_pos e, if_pos e.symm, e]
   ·rw [if_neg e, if_neg (Ne.symm e), i2 j hj2, Int.add_zero]
  ·have e : k = (flats m B).length := by omega
   subst e
   refine list_ext_getD (by rw [i1, chr_len]) fun j hj => ?_
   rw [i1] at hj
   rw [i2 j hj]
   unfold chr
   rw [if_pos h0, List.getD_eq_getElem?_getD, List.getElem?_map, List.getElem?_range hj]
   rfl
end
section
variable {p : Nat} [NeZero p]
variable {M : Nat → Nat → Fin p}
def csu (c : Fin p) (a : Nat → Fin p) (l : Nat) : Fin p := if l = 0 then c else a (l - 1)
/-- The word that these so many rows from the i-th on make. -/
def cx (M : Nat → Nat → Fin p) (r i : Nat) (a : Nat → Fin p) (j : Nat) : Fin p := Sm r fun l => a l * M (i + l) j
theorem cx_succ (r i : Nat) (a : Nat → Fin p) (j : Nat) : cx M (r + 1) i a j = a 0 * M i j + cx M r (i + 1) (fun l => a (l + 1)) j := by
 unfold cx
 rw [Sm_sk (k := 0) _ (by omega)]
 refine congrArg (fun x => a 0 * M i j + x) (Sm_congr fun l _ => ?_)
 have : sk 0 l = l + 1 := by unfold sk; rw [if_neg (by omega)]
 rw [this, show i + (l + 1) = i + 1 + l by omega]
theorem cx_csu (r i : Nat) (c : Fin p) (a : Nat → Fin p) (j : Nat) : cx M (r + 1) i (csu c a) j = c * M i j + cx M r (i + 1) a j := by
 rw [cx_succ]
 rfl
theorem as1 (u c m x : Fin p) : u + (c * m + x) = u + c * m + x := by grind
theorem as3 (u : Fin p) : u + 0 = u := by grind
end
section
variable {p : Nat} [NeZero p]
/-- A word as a list. -/
structure Wd (n : Nat) (w : List Int) (u : Nat → Fin p) : Prop where
 len : w.length = n
 bd : ∀ j, j < n → 0 ≤ w.getD j 0 ∧ w.getD j 0 < p
 val : ∀ j, j < n → cF p (w.getD j 0) = u j
theorem Wd.ext {n : Nat} {w w' : List Int} {u : Nat → Fin p} (h : Wd n w u) (h' : Wd n w' u) : w = w' := by
 refine List.ext_getElem (by rw [h.len, h'.len]) fun j h1 h2 => ?_
 have hj : j < n := by rw [← h.len]; exact h1
 have e := (cF_eq (h.bd j hj) (h'.bd j hj)).1 (by rw [h.val j hj, h'.val j hj])
 rw [List.getD_eq_getElem?_getD, List.getD_eq_getElem?_getD, List.getElem?_eq_getElem h1, List.getElem?_eq_getElem h2] at e
 exact e
theorem ad1 (u c m : Fin p) : u + c * m + m = u + (c + 1) * m := by grind
theorem ad2 (u m c : Fin p) (h : c = 0) : u + c * m = u := by grind
theorem pow7 {p r : Nat} (h7 : p ≤ 7) (hr : r ≤ 6) : p ^ r ≤ 117649 :=
 Nat.le_trans (Nat.pow_le_pow_left h7 r) (Nat.le_trans (Nat.pow_le_pow_right (by omega) hr) (by decide))
end
end Go.SH
