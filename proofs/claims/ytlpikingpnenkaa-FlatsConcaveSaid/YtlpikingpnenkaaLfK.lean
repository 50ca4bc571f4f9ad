/-
 Matroids, complexes, shellings, flats, broken circuits (what the law FlatsConcave needs of the elder texts). Conditions: none.
-/
import Derived.Test.YtlpikingpnenkaaSp
import Derived.Test.YtlpikingpnenkaaHK
import Derived.Test.YtlpikingpnenkaaLMj
import Derived.Test.YtlpikingpnenkaaSprotakeep
set_option linter.unusedSimpArgs false
set_option linter.unusedVariables false
set_option linter.unusedSectionVars false
namespace Go.SH
open Go Go.AX
/-- g 0 + .. + g (n - 1). -/
def sumN : Nat → (Nat → Int) → Int
 | 0, _ => 0
 | n + 1, g => sumN n g + g n
theorem sumN_congr {n : Nat} {g h : Nat → Int} (e : ∀ i, i < n → g i = h i) : sumN n g = sumN n h := by
 induction n with
 | zero => rfl
 | succ n ih => simp only [sumN]; rw [ih fun i hi => e i (by omega), e n (by omega)]
theorem sumN_le {n : Nat} {g h : Nat → Int} (e : ∀ i, i < n → g i ≤ h i) : sumN n g ≤ sumN n h := by
 induction n with
 | zero => exact Int.le_refl _
 | succ n ih =>
  simp only [sumN]
  have := ih fun i hi => e i (by omega)
  have := e n (by omega)
  omega
theorem sumN_add (n : Nat) (g h : Nat → Int) : sumN n (fun i => g i + h i) = sumN n g + sumN n h := by
 induction n with
 | zero => rfl
 | succ n ih => simp only [sumN]; rw [ih]; omega
theorem sumN_zero (n : Nat) : sumN n (fun _ => 0) = 0 := by
 induction n with
 | zero => rfl
 | succ n ih => simp only [sumN]; rw [ih]; rfl
theorem sumN_mul (n : Nat) (c : Int) (g : Nat → Int) : sumN n (fun i => c * g i) = c * sumN n g := by
 induction n with
 | zero => simp [sumN]
 | succ n ih => simp only [sumN]; rw [ih, Int.mul_add]
theorem sumN_single (n i : Nat) (v : Int) (h : i < n) : sumN n (fun j => if j = i then v else 0) = v := by
 induction n with
 | zero => omega
 | succ n ih =>
  simp only [sumN]
  rcases Nat.lt_or_ge i n with q | q
  ·rw [ih q, if_neg (by omega)]; omega
  ·have : i = n := by omega
   subst this
   rw [if_pos rfl, sumN_congr (h := fun _ => 0) fun j hj => if_neg (by omega), sumN_zero]; omega
theorem sumN_swap (n m : Nat) (g : Nat → Nat → Int) : sumN n (fun i => sumN m (fun j => g i j)) = sumN m (fun j => sumN n (fun i => g i j)) := by
 induction n with
 | zero => simp only [sumN]; exact (sumN_zero m).symm
 | succ n ih => simp only [sumN]; rw [ih, ← sumN_add]
/-- How many of the first m elements a set has. -/
def cnt : Nat → Nat → Nat
 | 0, _ => 0
 | m + 1, s => cnt m s + if s.testBit m then 1 else 0
/-- How many elements a set has (of eight). -/
def size (s : Nat) : Nat := cnt 8 s
theorem cnt_le (m s : Nat) : cnt m s ≤ m := by
 induction m with
 | zero => exact Nat.le_refl _
 | succ m ih => simp only [cnt]; split <;> omega
theorem cnt_congr {m s t : Nat} (h : ∀ i, i < m → s.testBit i = t.testBit i) : cnt m s = cnt m t := by
 induction m with
 | zero => rfl
 | succ m ih => simp only [cnt]; rw [ih fun i hi => h i (by omega), h m (by omega)]
theorem cnt_mono {m s t : Nat} (h : ∀ i, i < m → s.testBit i = true → t.testBit i = true) : cnt m s ≤ cnt m t := by
 induction m with
 | zero => exact Nat.le_refl _
 | succ m ih =>
  simp only [cnt]
  have := ih fun i hi => h i (by omega)
  have := h m (by omega)
  split <;> split <;> simp_all <;> omega
theorem cnt_zero (m : Nat) : cnt m 0 = 0 := by
 induction m with
 | zero => rfl
 | succ m ih => simp [cnt, ih]
theorem testBit_pow (i j : Nat) : (2 ^ i).testBit j = decide (i = j) := Nat.testBit_two_pow
theorem cnt_add {m s : Nat} {i : Nat} (hi : i < m) (h : s.testBit i = false) : cnt m (s ||| 2 ^ i) = cnt m s + 1 := by
 induction m with
 | zero => omega
 | succ m ih =>
  simp only [cnt, Nat.testBit_or, testBit_pow]
  rcases Nat.lt_or_ge i m with q | q
  ·rw [ih q]
   have : decide (i = m) = false := by simp; omega
   rw [this, Bool.or_false]; omega
  ·have : i = m := by omega
   subst this
   have e : cnt i (s ||| 2 ^ i) = cnt i s := cnt_congr fun j hj => by
    rw [Nat.testBit_or, testBit_pow]
    have : decide (i = j) = false := by simp; omega
    rw [this, Bool.or_false]
   rw [e, h]; simp
theorem bit_ge {s m i : Nat} (hs : s < 2 ^ m) (h : m ≤ i) : s.testBit i = false := by
 cases hb : s.testBit i
 ·rfl
 ·have := bit_lt hs hb; omega
theorem set_ext {m s t : Nat} (hs : s < 2 ^ m) (ht : t < 2 ^ m) (h : ∀ i, i < m → s.testBit i = t.testBit i) : s = t := by
 apply Nat.eq_of_testBit_eq
 intro i
 rcases Nat.lt_or_ge i m with q | q
 ·exact h i q
 ·rw [bit_ge hs q, bit_ge ht q]
theorem cnt_of_lt {m k s : Nat} (hs : s < 2 ^ m) (hk : m ≤ k) : cnt k s = cnt m s := by
  induction k with
  | zero => have : m = 0 := by omega
            subst this; rfl
  | succ k ih =>
    rcases Nat.lt_or_ge m (k + 1) with q | q
    · simp only [cnt]; rw [ih (by omega), bit_ge hs (by omega)]; simp
    · have : m = k + 1 := by omega
      rw [this]
theorem size_of_lt {m s : Nat} (hs : s < 2 ^ m) (hm : m ≤ 8) : size s = cnt m s := cnt_of_lt hs hm
theorem sub_iff_dif (s t : Nat) : dif s t = 0 ↔ Inc s t := by
 constructor
 ·intro h i hs
  have := congrArg (fun x => Nat.testBit x i) h
  simp only [testBit_dif, hs, Bool.true_and, Nat.zero_testBit] at this
  cases ht : t.testBit i
  ·rw [ht] at this; cases this
  ·rfl
 ·intro h
  apply Nat.eq_of_testBit_eq; intro i
  rw [testBit_dif, Nat.zero_testBit]
  cases hs : s.testBit i
  ·rfl
  ·rw [h i hs]; rfl
/-- A set grows element by element. -/
theorem set_ind {m : Nat} (p : Nat → Prop) (h0 : p 0) (h : ∀ s i, s < 2 ^ m → i < m → s.testBit i = false → p s → p (s ||| 2 ^ i)) : ∀ s, s < 2 ^ m → p s := by
  have key : ∀ k s, s < 2 ^ k → k ≤ m → p s := by
    intro k
    induction k with
    | zero => intro s hs _; have : s = 0 := by omega
              subst this; exact h0
    | succ k ih =>
      intro s hs hk
      by_cases hb : s.testBit k = true
      · let t := dif s (2 ^ k)
        have ht : t < 2 ^ k := lt_of_bits fun i hi => by
          show (dif s (2 ^ k)).testBit i = false
          rw [testBit_dif, testBit_pow]
          rcases Nat.lt_or_ge i (k + 1) with q | q
          · have : k = i := by omega
            subst this; simp
          · rw [bit_ge hs q]; rfl
        have e : s = t ||| 2 ^ k := by
          apply Nat.eq_of_testBit_eq; intro i
          rw [Nat.testBit_or, testBit_pow]
          show _ = ((dif s (2 ^ k)).testBit i || _)
          rw [testBit_dif, testBit_pow]
          by_cases q : k = i
          · subst q; simp [hb]
          · simp [q]
        rw [e]
        exact h t k (Nat.lt_of_lt_of_le ht (Nat.pow_le_pow_right (by omega) (by omega))) (by omega) (bit_ge ht (Nat.le_refl _)) (ih t ht (by omega))
      · refine ih s (lt_of_bits fun i hi => ?_) (by omega)
        rcases Nat.lt_or_ge i (k + 1) with q | q
        · have : k = i := by omega
          subst this; simpa using hb
        · exact bit_ge hs q
  exact fun s hs => key m s hs (Nat.le_refl _)
theorem dif_self_pow {s i j : Nat} (h : s.testBit j = true) (hij : i ≠ j) : (dif s (2 ^ i)).testBit j = true := by
 rw [testBit_dif, testBit_pow, h]; simp [hij]
theorem dif_or {c i : Nat} (h1 : c.testBit i = true) : dif c (2 ^ i) ||| 2 ^ i = c := by
 apply Nat.eq_of_testBit_eq; intro j
 rw [Nat.testBit_or, testBit_dif, testBit_pow]
 by_cases e : i = j
 ·subst e; simp [h1]
 ·simp [e]
theorem cnt_dif {m c i : Nat} (hc : c < 2 ^ m) (h1 : c.testBit i = true) : cnt m c = cnt m (dif c (2 ^ i)) + 1 := by
 have := cnt_add (m := m) (s := dif c (2 ^ i)) (bit_lt hc h1) (by rw [testBit_dif, testBit_pow]; simp)
 rwa [dif_or h1] at this
theorem cnt_pos {m c i : Nat} (hc : c < 2 ^ m) (h1 : c.testBit i = true) : 0 < cnt m c := by have := cnt_dif hc h1; omega
theorem exists_bit {c : Nat} (h : c ≠ 0) : ∃ i, c.testBit i = true := by
 rcases Classical.em (∃ i, c.testBit i = true) with q | q
 ·exact q
 ·exfalso; apply h
  apply Nat.eq_of_testBit_eq; intro i
  rw [Nat.zero_testBit]
  cases hb : c.testBit i
  ·rfl
  ·exact absurd ⟨i, hb⟩ q
theorem or_eq_iff (s t : Nat) : s ||| t = t ↔ Inc s t := by
 constructor
 ·intro h i hs
  rw [← h, Nat.testBit_or, hs]; rfl
 ·intro h
  apply Nat.eq_of_testBit_eq; intro i
  rw [Nat.testBit_or]
  cases hs : s.testBit i
  ·rfl
  ·rw [h i hs]; rfl
theorem Inc.antisymm {a b : Nat} (h : Inc a b) (k : Inc b a) : a = b := by
 apply Nat.eq_of_testBit_eq; intro i
 rw [Bool.eq_iff_iff]; exact ⟨h i, k i⟩
theorem step_all {p : Nat → Prop} {k : Nat} (h1 : ∀ j, j < k → p j) (h2 : p k) : ∀ j, j < k + 1 → p j := fun j hj => by
 rcases Nat.lt_or_ge j k with q | q
 ·exact h1 j q
 ·have : j = k := by omega
  subst this; exact h2
theorem none_all {p : Nat → Prop} : ∀ j, j < 0 → p j := fun j hj => absurd hj (Nat.not_lt_zero j)
/-- A list of sets, as numbers of the program's. -/
def cs (L : List Nat) : List Int := L.map Nat.cast
@[simp] theorem cs_len (L : List Nat) : (cs L).length = L.length := by simp [cs]
theorem cs_get (L : List Nat) (k : Nat) : (cs L).getD k 0 = ((L.getD k 0 : Nat) : Int) := by
 simp only [cs, List.getD_eq_getElem?_getD, List.getElem?_map]
 cases L[k]? <;> simp
theorem cs_app (L : List Nat) (a : Nat) : cs L ++ [(a : Int)] = cs (L ++ [a]) := by simp [cs]
theorem cs_inj {L K : List Nat} (h : cs L = cs K) : L = K := by
 have := congrArg (List.map Int.toNat) h
 simpa [cs, Function.comp_def] using this
theorem cs_of {l : List Int} (h : ∀ k, k < l.length → 0 ≤ l.getD k 0) : l = cs (l.map Int.toNat) := by
 apply List.ext_getElem? ; intro i
 simp only [cs, List.map_map, List.getElem?_map]
 cases hi : l[i]? with
 | none => rfl
 | some x =>
  have hlt := (List.getElem?_eq_some_iff.1 hi).1
  have := h i hlt
  rw [List.getD_eq_getElem?_getD, hi] at this
  simp only [Option.getD_some] at this
  simp only [Option.map_some, Function.comp_apply, Option.some.injEq]; omega
theorem cs_mem (L : List Nat) (a : Nat) : (a : Int) ∈ cs L ↔ a ∈ L := by
 simp only [cs, List.mem_map]
 constructor
 ·rintro ⟨b, h, e⟩; have : b = a := by omega
  rwa [← this]
 ·intro h; exact ⟨a, h, rfl⟩
/-- It rises. -/
def Rise (l : List Int) : Prop := ∀ i j, i < j → j < l.length → l.getD i 0 < l.getD j 0
theorem Fam.Rise {m : Nat} {L : List Nat} (h : Fam m L) : Rise (cs L) := fun i j hij hj => by
 rw [cs_get, cs_get]; have := h.rise i j hij (by simpa using hj); omega
theorem sets_Family_spec (n : Int) (l : List Int) (hl : l.length ≤ 9223372036854775807) : Gets (sets_Family n l) (fun r => (r = 0 ∧ ∃ m L, n = (m : Nat) ∧ l = cs L ∧ Fam m L) ∨ (r = 1 ∧ ¬ ∃ m L, n = (m : Nat) ∧ l = cs L ∧ Fam m L)) := by
 unfold sets_Family
 refine gIte (fun h => gSome (.inr ⟨rfl, ?_⟩)) fun h => ?_
 ·rintro ⟨m, L, rfl, rfl, hf⟩
  have := hf.m8; omega
 ·obtain ⟨m, rfl⟩ := Int.eq_ofNat_of_zero_le (show 0 ≤ n by omega)
  refine gBind (R := fun z => match z with | .inl _ => ∀ k, k < l.length → 0 ≤ l.getD k 0 ∧ l.getD k 0 < ((2 ^ m : Nat) : Int) ∧ (0 < k → l.getD (k - 1) 0 < l.getD k 0) | .inr r => r = 1 ∧ ¬ ∀ k, k < l.length → 0 ≤ l.getD k 0 ∧ l.getD k 0 < ((2 ^ m : Nat) : Int) ∧ (0 < k → l.getD (k - 1) 0 < l.getD k 0))
   (gFor l.length (fun k v => v = (k : Int) ∧ ∀ j, j < k → 0 ≤ l.getD j 0 ∧ l.getD j 0 < ((2 ^ m : Nat) : Int) ∧ (0 < j → l.getD (j - 1) 0 < l.getD j 0)) (Nat.zero_le _) ⟨rfl, none_all⟩ ?_) ?_
  ·rintro k _ hk ⟨rfl, hb⟩
   refine gIte (fun h1 => gChk (by omega) ?_) fun h1 => gSome fun j hj => hb j (by omega)
   have e : ((k : Int) - 1).toNat = k - 1 := by omega
   simp only [toNat_nat, shl_nat', e]
   refine gChk (by omega) (gIte (fun h2 => gSome ⟨rfl, fun h3 => ?_⟩) fun h2 => gSome ⟨by omega, by simp, step_all hb (by omega)⟩)
   have := h3 k (by omega)
   omega
  ·rintro (u | rr) hz
   ·refine gSome (.inl ⟨rfl, m, l.map Int.toNat, rfl, cs_of fun k hk => (hz k hk).1, by omega, fun s hs => ?_, fun i j hij hj => ?_⟩)
    ·obtain ⟨k, h1, h2⟩ := mem_getD.1 hs
     rw [cs_of fun k hk => (hz k hk).1] at hz
     have := (hz k (by simpa using h1)).2.1
     rw [cs_get, h2] at this; omega
    ·have hcs := cs_of fun k hk => (hz k hk).1
     have key : ∀ d i, i + d + 1 < l.length → l.getD i 0 < l.getD (i + d + 1) 0 := fun d => by
      induction d with
      | zero => intro i hi; exact (hz (i + 1) hi).2.2 (by omega)
      | succ d ih => intro i hi; have := ih i (by omega); have := (hz (i + (d + 1) + 1) hi).2.2 (by omega); rw [show i + (d + 1) + 1 - 1 = i + d + 1 by omega] at this; omega
     have := key (j - i - 1) i (by simp at hj; omega)
     rw [show i + (j - i - 1) + 1 = j by omega, hcs, cs_get, cs_get] at this
     omega
   ·refine gSome (.inr ⟨hz.1, ?_⟩)
    rintro ⟨m', L, he, rfl, hf⟩
    have : m' = m := by omega
    subst this
    refine hz.2 fun k hk => ?_
    rw [cs_len] at hk
    rw [cs_get, cs_get]
    have h1 := hf.lt _ (mem_getD.2 ⟨k, hk, rfl⟩)
    refine ⟨by omega, by omega, fun h0 => ?_⟩
    have := hf.rise (k - 1) k (by omega) hk
    omega
theorem isNaN_eq (x : Int) : slices_isNaN_int x = some false := by simp [slices_isNaN_int]
theorem cisNaN_eq (x : Int) : cmp_isNaN_int x = some false := by simp [cmp_isNaN_int]
theorem Less_eq (x y : Int) : cmp_Less_int x y = some (decide (x < y)) := by simp [cmp_Less_int, cisNaN_eq]
theorem BinarySearch_spec (l : List Int) (t : Int) (hr : Rise l) (hl : l.length < 2 ^ 60) : Gets (slices_BinarySearch_int_int l t) (fun r => r.2 = true ↔ t ∈ l) := by
 unfold slices_BinarySearch_int_int
 refine gBind (R := fun i => ∃ k : Nat, i = (k : Int) ∧ k ≤ l.length ∧ (∀ j, j < k → l.getD j 0 < t) ∧ ∀ j, k ≤ j → j < l.length → t ≤ l.getD j 0)
  (gLoop (fun s => ∃ a b : Nat, s.1 = (a : Int) ∧ s.2 = (b : Int) ∧ a ≤ b ∧ b ≤ l.length ∧ (∀ j, j < a → l.getD j 0 < t) ∧ ∀ j, b ≤ j → j < l.length → t ≤ l.getD j 0) (fun s => (s.2 - s.1).toNat) ⟨0, l.length, rfl, rfl, Nat.zero_le _, Nat.le_refl _, none_all, fun j h1 h2 => by omega⟩ ?_) ?_
 ·rintro ⟨_, _⟩ ⟨a, b, rfl, rfl, hab, hb, h1, h2⟩
  simp only
  refine gIte (fun h3 => ?_) fun h3 => gSome ⟨a, rfl, by omega, h1, fun j hj => h2 j (by omega)⟩
  have e : ((a : Int) + b) / 2 ^ 1 = (((a + b) / 2 : Nat) : Int) := by omega
  simp only [e, toNat_nat, Less_eq, Option.bind_some]
  refine gChk (by omega) (gChk (by omega) (gIte (fun h4 => gChk (by omega) (gSome ⟨⟨(a + b) / 2 + 1, b, by simp, rfl, by omega, hb, fun j hj => ?_, h2⟩, by simp only; omega⟩)) fun h4 => gSome ⟨⟨a, (a + b) / 2, rfl, rfl, by omega, by omega, h1, fun j h5 h6 => ?_⟩, by simp only; omega⟩))
  ·have h4 := of_decide_eq_true h4
   rcases Nat.lt_or_ge j ((a + b) / 2) with q | q
   ·have := hr j ((a + b) / 2) q (by omega); omega
   ·have : j = (a + b) / 2 := by omega
    subst this; exact h4
  ·have h4 : ¬ l.getD ((a + b) / 2) 0 < t := fun q => h4 (decide_eq_true q)
   rcases Nat.lt_or_ge ((a + b) / 2) j with q | q
   ·have := hr ((a + b) / 2) j q h6; omega
   ·have : j = (a + b) / 2 := by omega
    subst this; omega
 ·rintro _ ⟨k, rfl, hk, h1, h2⟩
  have get : ∀ j, j < l.length → l.getD j 0 ∈ l := fun j hj => by
   rw [List.getD_eq_getElem?_getD, List.getElem?_eq_getElem hj]; exact List.getElem_mem hj
  refine gChk (by omega) ?_
  simp only [toNat_nat, isNaN_eq]
  refine gBindE (a := false) (by split <;> rfl) (gBindE (a := false) (by split <;> rfl) (gSome ?_))
  simp only [decide_eq_true_eq]
  constructor
  ·rintro ⟨h3, h4⟩
   rcases h4 with h4 | h4
   ·rw [← h4]; exact get k (by omega)
   ·exact absurd h4.1 (by simp)
  ·intro h3
   obtain ⟨j, hj, rfl⟩ := List.getElem_of_mem h3
   have ej : l.getD j 0 = l[j] := by rw [List.getD_eq_getElem?_getD, List.getElem?_eq_getElem hj]; rfl
   have hkj : k ≤ j := by
    rcases Nat.lt_or_ge j k with q | q
    ·have := h1 j q; omega
    ·exact q
   refine ⟨by omega, .inl ?_⟩
   have h5 := h2 k (Nat.le_refl _) (by omega)
   rcases Nat.lt_or_ge k j with q | q
   ·have := hr k j q hj; omega
   ·have : k = j := by omega
    subst this; exact ej
/-- The least element. -/
def lo1 (t : Nat) : Nat := if t.testBit 0 then 0 else if t.testBit 1 then 1 else if t.testBit 2 then 2 else if t.testBit 3 then 3 else if t.testBit 4 then 4 else if t.testBit 5 then 5 else if t.testBit 6 then 6 else 7
theorem low_tab : ∀ t : Fin 256, t.val ≠ 0 → (iand (t.val : Int) (-(t.val : Int)) = ((2 ^ lo1 t.val : Nat) : Int) ∧ iand (t.val : Int) ((t.val : Int) - 1) = ((dif t.val (2 ^ lo1 t.val) : Nat) : Int) ∧ t.val.testBit (lo1 t.val) = true ∧ (∀ j : Fin 8, j.val < lo1 t.val → t.val.testBit j.val = false) ∧ dif t.val (2 ^ lo1 t.val) < t.val) :=
 of_decide_eq_true (by kernel_rfl)
structure IsLow (t i : Nat) : Prop where
 neg : iand (t : Int) (-(t : Int)) = ((2 ^ i : Nat) : Int)
 rest : iand (t : Int) ((t : Int) - 1) = ((dif t (2 ^ i) : Nat) : Int)
 bit : t.testBit i = true
 least : ∀ j, j < i → t.testBit j = false
 less : dif t (2 ^ i) < t
theorem low_spec {t : Nat} (h : t < 256) (h0 : t ≠ 0) : IsLow t (lo1 t) := by
 obtain ⟨h1, h2, h3, h4, h5⟩ := low_tab ⟨t, h⟩ h0
 refine ⟨h1, h2, h3, fun j hj => ?_, h5⟩
 have : lo1 t < 8 := by unfold lo1; repeat' split <;> (try omega)
 exact h4 ⟨j, by omega⟩ hj
theorem oc_tab : ∀ a : Fin 256, oc (a.val : Int) = ((size a.val : Nat) : Int) := of_decide_eq_true (by kernel_rfl)
theorem oc_size {a : Nat} (h : a < 256) : oc (a : Int) = ((size a : Nat) : Int) := oc_tab ⟨a, h⟩
theorem cnt_or_and (m a b : Nat) : cnt m (a ||| b) + cnt m (a &&& b) = cnt m a + cnt m b := by
 induction m with
 | zero => rfl
 | succ m ih =>
  simp only [cnt, Nat.testBit_or, Nat.testBit_and]
  cases a.testBit m <;> cases b.testBit m <;> simp <;> omega
theorem cnt_split (m a b : Nat) : cnt m a = cnt m (a &&& b) + cnt m (dif a b) := by
 induction m with
 | zero => rfl
 | succ m ih =>
  simp only [cnt, testBit_dif, Nat.testBit_and]
  cases a.testBit m <;> cases b.testBit m <;> simp <;> omega
theorem cnt_le_of_inc {m a b : Nat} (h : Inc a b) : cnt m a ≤ cnt m b := cnt_mono fun i _ hi => h i hi
theorem inc_and_l (a b : Nat) : Inc (a &&& b) a := fun i hi => by rw [Nat.testBit_and, Bool.and_eq_true] at hi; exact hi.1
theorem inc_and_r (a b : Nat) : Inc (a &&& b) b := fun i hi => by rw [Nat.testBit_and, Bool.and_eq_true] at hi; exact hi.2
theorem inc_and {a b c : Nat} (h : Inc c a) (k : Inc c b) : Inc c (a &&& b) := fun i hi => by rw [Nat.testBit_and, h i hi, k i hi]; rfl
theorem inc_or_l (a b : Nat) : Inc a (a ||| b) := fun i hi => by rw [Nat.testBit_or, hi]; rfl
theorem inc_or_r (a b : Nat) : Inc b (a ||| b) := fun i hi => by rw [Nat.testBit_or, hi, Bool.or_true]
theorem inc_or {a b c : Nat} (h : Inc a c) (k : Inc b c) : Inc (a ||| b) c := fun i hi => by
 rw [Nat.testBit_or, Bool.or_eq_true] at hi
 rcases hi with hi | hi
 ·exact h i hi
 ·exact k i hi
theorem inc_dif (a b : Nat) : Inc (dif a b) a := fun i hi => by rw [testBit_dif] at hi; simp only [Bool.and_eq_true] at hi; exact hi.1
theorem inc_pow {i s : Nat} (h : s.testBit i = true) : Inc (2 ^ i) s := fun j hj => by
 rw [testBit_pow, decide_eq_true_eq] at hj; subst hj; exact h
theorem inc_zero (a : Nat) : Inc 0 a := fun i hi => by simp at hi
theorem not_inc {a b : Nat} (h : ¬ Inc a b) : ∃ i, a.testBit i = true ∧ b.testBit i = false := by
 rcases Classical.em (∃ i, a.testBit i = true ∧ b.testBit i = false) with q | q
 ·exact q
 ·exfalso; apply h; intro i hi
  cases hb : b.testBit i
  ·exact absurd ⟨i, hi, hb⟩ q
  ·rfl
theorem cnt_lt_of {m a b i : Nat} (h : Inc a b) (hb : b < 2 ^ m) (h1 : b.testBit i = true) (h2 : a.testBit i = false) : cnt m a < cnt m b := by
 have h3 := cnt_dif hb h1
 have : Inc a (dif b (2 ^ i)) := fun j hj => dif_self_pow (h j hj) (by rintro rfl; rw [hj] at h2; cases h2)
 have := cnt_le_of_inc (m := m) this
 omega
theorem inc_eq_of_cnt {m a b : Nat} (h : Inc a b) (hb : b < 2 ^ m) (hc : cnt m b ≤ cnt m a) : a = b := by
 refine Inc.antisymm h fun i hi => ?_
 cases q : a.testBit i
 ·have := cnt_lt_of h hb hi q; omega
 ·rfl
/-- A matroid by its bases. -/
structure Mat (m : Nat) (B : List Nat) : Prop extends Fam m B where
 ne : B ≠ []
 eqc : ∀ a, a ∈ B → ∀ b, b ∈ B → cnt m a = cnt m b
 ex : ∀ a, a ∈ B → ∀ b, b ∈ B → ∀ x, a.testBit x = true → b.testBit x = false → ∃ y, b.testBit y = true ∧ a.testBit y = false ∧ dif a (2 ^ x) ||| 2 ^ y ∈ B
/-- Independent: within a basis. -/
def Ind (B : List Nat) (s : Nat) : Prop := ∃ b, b ∈ B ∧ Inc s b
theorem Ind.mono {B : List Nat} {s t : Nat} (h : Ind B t) (hs : Inc s t) : Ind B s := let ⟨b, h1, h2⟩ := h; ⟨b, h1, hs.trans h2⟩
theorem testBit_swap {a x y i : Nat} (hxy : x ≠ y) : (dif a (2 ^ x) ||| 2 ^ y).testBit i = true ↔ (i = y ∨ (a.testBit i = true ∧ i ≠ x)) := by
 rw [Nat.testBit_or, testBit_dif, testBit_pow, testBit_pow]
 simp only [Bool.or_eq_true, Bool.and_eq_true, Bool.not_eq_true', decide_eq_true_eq, decide_eq_false_iff_not]
 constructor
 ·rintro (⟨h1, h2⟩ | rfl)
  ·exact .inr ⟨h1, fun e => h2 e.symm⟩
  ·exact .inl rfl
 ·rintro (rfl | ⟨h1, h2⟩)
  ·exact .inr rfl
  ·exact .inl ⟨h1, fun e => h2 e.symm⟩
section
variable {m : Nat} {B : List Nat} (h : Mat m B)
include h
theorem Mat.ind_lt {s : Nat} (hs : Ind B s) : s < 2 ^ m := let ⟨b, h1, h2⟩ := hs; h2.lt (h.lt b h1)
theorem Mat.aug_aux : ∀ (d : Nat) (b1 b2 I J : Nat), b1 ∈ B → b2 ∈ B → Inc I b1 → Inc J b2 → cnt m (dif b2 (J ||| b1)) ≤ d → cnt m I < cnt m J → ∃ y, J.testBit y = true ∧ I.testBit y = false ∧ Ind B (I ||| 2 ^ y) := by
 intro d
 induction d with
 | zero =>
  intro b1 b2 I J h1 h2 hI hJ hd hc
  have hb1 := h.lt b1 h1
  have hb2 := h.lt b2 h2
  have e0 : Inc b2 (J ||| b1) := by
   rw [← sub_iff_dif]
   rcases Classical.em (dif b2 (J ||| b1) = 0) with q | q
   ·exact q
   ·obtain ⟨i, hi⟩ := exists_bit q
    have := cnt_pos (dif_lt hb2) hi
    omega
  rcases Classical.em (Inc b1 (I ||| b2)) with q | q
  ·rcases Classical.em (∃ y, J.testBit y = true ∧ b1.testBit y = true ∧ I.testBit y = false) with r | r
   ·obtain ⟨y, r1, r2, r3⟩ := r
    exact ⟨y, r1, r3, b1, h1, inc_or hI (inc_pow r2)⟩
   ·exfalso
    have k1 : Inc (dif J I) (dif b2 b1) := fun i hi => by
     rw [testBit_dif] at hi ⊢
     simp only [Bool.and_eq_true, Bool.not_eq_true'] at hi ⊢
     refine ⟨hJ i hi.1, ?_⟩
     cases hb : b1.testBit i
     ·rfl
     ·exact absurd ⟨i, hi.1, hb, hi.2⟩ r
    have k2 : Inc (dif b1 b2) (dif I J) := fun i hi => by
     rw [testBit_dif] at hi ⊢
     simp only [Bool.and_eq_true, Bool.not_eq_true'] at hi ⊢
     have := q i hi.1
     rw [Nat.testBit_or, hi.2, Bool.or_false] at this
     refine ⟨this, ?_⟩
     cases hb : J.testBit i
     ·rfl
     ·rw [hJ i hb] at hi; cases hi.2
    have c1 := cnt_le_of_inc (m := m) k1
    have c2 := cnt_le_of_inc (m := m) k2
    have c3 := h.eqc b1 h1 b2 h2
    have c4 := cnt_split m b1 b2
    have c5 := cnt_split m b2 b1
    rw [Nat.and_comm] at c5
    have c6 := cnt_split m I J
    have c7 := cnt_split m J I
    rw [Nat.and_comm] at c7
    omega
  ·obtain ⟨x, q1, q2⟩ := not_inc q
   rw [Nat.testBit_or, Bool.or_eq_false_iff] at q2
   obtain ⟨y, r1, r2, r3⟩ := h.ex b1 h1 b2 h2 x q1 q2.2
   have hxy : x ≠ y := by rintro rfl; rw [q1] at r2; cases r2
   have hJy : J.testBit y = true := by
    have := e0 y r1
    rw [Nat.testBit_or, r2, Bool.or_false] at this; exact this
   have hIy : I.testBit y = false := by
    cases hb : I.testBit y
    ·rfl
    ·rw [hI y hb] at r2; cases r2
   refine ⟨y, hJy, hIy, _, r3, fun i hi => (testBit_swap hxy).2 ?_⟩
   rw [Nat.testBit_or, testBit_pow, Bool.or_eq_true, decide_eq_true_eq] at hi
   rcases hi with hi | rfl
   ·exact .inr ⟨hI i hi, by rintro rfl; rw [hi] at q2; cases q2.1⟩
   ·exact .inl rfl
 | succ d ih =>
  intro b1 b2 I J h1 h2 hI hJ hd hc
  have hb2 := h.lt b2 h2
  rcases Classical.em (dif b2 (J ||| b1) = 0) with q | q
  ·exact ih b1 b2 I J h1 h2 hI hJ (by rw [q, cnt_zero]; omega) hc
  ·obtain ⟨x, hx⟩ := exists_bit q
   have hx' := hx
   rw [testBit_dif, Nat.testBit_or] at hx'
   simp only [Bool.and_eq_true, Bool.not_eq_true', Bool.or_eq_false_iff] at hx'
   obtain ⟨hx1, hx2, hx3⟩ := hx'
   obtain ⟨y, r1, r2, r3⟩ := h.ex b2 h2 b1 h1 x hx1 hx3
   have hxy : x ≠ y := by rintro rfl; rw [hx1] at r2; cases r2
   refine ih b1 _ I J h1 r3 hI (fun i hi => (testBit_swap hxy).2 (.inr ⟨hJ i hi, by rintro rfl; rw [hi] at hx2; cases hx2⟩)) ?_ hc
   have : Inc (dif (dif b2 (2 ^ x) ||| 2 ^ y) (J ||| b1)) (dif b2 (J ||| b1)) := fun i hi => by
    rw [testBit_dif] at hi ⊢
    simp only [Bool.and_eq_true, Bool.not_eq_true'] at hi ⊢
    refine ⟨?_, hi.2⟩
    rcases (testBit_swap hxy).1 hi.1 with rfl | ⟨q1, _⟩
    ·have := hi.2
     rw [Nat.testBit_or, r1, Bool.or_true] at this; cases this
    ·exact q1
   have := cnt_lt_of this (dif_lt hb2) hx (by
    rw [testBit_dif]
    have : (dif b2 (2 ^ x) ||| 2 ^ y).testBit x = false := by
     cases hb : (dif b2 (2 ^ x) ||| 2 ^ y).testBit x
     ·rfl
     ·rcases (testBit_swap hxy).1 hb with e | ⟨_, e⟩
      ·exact absurd e hxy
      ·exact absurd rfl e
    rw [this]; rfl)
   omega
/-- The smaller of two independent sets grows by an element of the greater one. -/
theorem Mat.aug {I J : Nat} (hI : Ind B I) (hJ : Ind B J) (hc : cnt m I < cnt m J) : ∃ y, J.testBit y = true ∧ I.testBit y = false ∧ Ind B (I ||| 2 ^ y) := by
 obtain ⟨b1, h1, k1⟩ := hI
 obtain ⟨b2, h2, k2⟩ := hJ
 exact h.aug_aux _ b1 b2 I J h1 h2 k1 k2 (Nat.le_refl _) hc
end
/-- How much of a basis lies in a set at most. -/
def rk (m : Nat) (B : List Nat) (s : Nat) : Nat := B.foldl (fun r b => max r (cnt m (s &&& b))) 0
theorem foldl_max_le {B : List Nat} {f : Nat → Nat} {a k : Nat} : B.foldl (fun r b => max r (f b)) a ≤ k ↔ a ≤ k ∧ ∀ b, b ∈ B → f b ≤ k := by
 induction B generalizing a with
 | nil => simp
 | cons c B ih =>
  rw [List.foldl_cons, ih]
  constructor
  ·rintro ⟨h1, h2⟩
   refine ⟨by omega, fun b hb => ?_⟩
   rcases List.mem_cons.1 hb with rfl | hb
   ·omega
   ·exact h2 b hb
  ·rintro ⟨h1, h2⟩
   have := h2 c (by simp)
   exact ⟨by omega, fun b hb => h2 b (by simp [hb])⟩
theorem foldl_max_mem {B : List Nat} {f : Nat → Nat} {a : Nat} : B.foldl (fun r b => max r (f b)) a = a ∨ ∃ b, b ∈ B ∧ B.foldl (fun r b => max r (f b)) a = f b := by
 induction B generalizing a with
 | nil => exact .inl rfl
 | cons c B ih =>
  rw [List.foldl_cons]
  rcases ih (a := max a (f c)) with q | ⟨b, q1, q2⟩
  ·rw [q]
   rcases Nat.le_total a (f c) with r | r
   ·exact .inr ⟨c, by simp, by omega⟩
   ·left; omega
  ·exact .inr ⟨b, by simp [q1], q2⟩
theorem rk_le {m : Nat} {B : List Nat} {s k : Nat} : rk m B s ≤ k ↔ ∀ b, b ∈ B → cnt m (s &&& b) ≤ k := by
 unfold rk; rw [foldl_max_le]; simp
theorem le_rk {m : Nat} {B : List Nat} {s b : Nat} (hb : b ∈ B) : cnt m (s &&& b) ≤ rk m B s := rk_le.1 (Nat.le_refl _) b hb
section
variable {m : Nat} {B : List Nat} (h : Mat m B)
include h
theorem Mat.exists_basis : ∃ b, b ∈ B := by
 cases hB : B with
 | nil => exact absurd hB h.ne
 | cons b r => exact ⟨b, by simp⟩
theorem Mat.rk_mem (s : Nat) : ∃ b, b ∈ B ∧ rk m B s = cnt m (s &&& b) := by
 unfold rk
 rcases foldl_max_mem (B := B) (f := fun b => cnt m (s &&& b)) (a := 0) with q | q
 ·obtain ⟨b, hb⟩ := h.exists_basis
  have := rk_le (m := m) (B := B) (s := s) (k := 0)
  unfold rk at this
  have h0 := (this.1 (by omega)) b hb
  exact ⟨b, hb, by omega⟩
 ·exact q
/-- The rank is the size of a greatest independent set within. -/
theorem Mat.rk_ind {s : Nat} : ∃ I, Ind B I ∧ Inc I s ∧ cnt m I = rk m B s := by
 obtain ⟨b, h1, h2⟩ := h.rk_mem s
 exact ⟨s &&& b, ⟨b, h1, inc_and_r s b⟩, inc_and_l s b, h2.symm⟩
theorem Mat.ind_le {I s : Nat} (hI : Ind B I) (hs : Inc I s) : cnt m I ≤ rk m B s := by
 have _ := h
 obtain ⟨b, h1, h2⟩ := hI
 exact Nat.le_trans (cnt_le_of_inc (inc_and hs h2)) (le_rk h1)
/-- An independent set in another one grows to a greatest one. -/
theorem Mat.extend {u : Nat} : ∀ (k : Nat) (I : Nat), rk m B u - cnt m I ≤ k → Ind B I → Inc I u → ∃ J, Ind B J ∧ Inc I J ∧ Inc J u ∧ cnt m J = rk m B u := by
 intro k
 induction k with
 | zero =>
  intro I hk hI hs
  have := h.ind_le hI hs
  exact ⟨I, hI, Inc.refl I, hs, by omega⟩
 | succ k ih =>
  intro I hk hI hs
  rcases Nat.lt_or_ge (cnt m I) (rk m B u) with q | q
  ·obtain ⟨J, j1, j2, j3⟩ := h.rk_ind (s := u)
   obtain ⟨y, y1, y2, y3⟩ := h.aug hI j1 (by omega)
   have hy : y < m := bit_lt (h.ind_lt j1) y1
   obtain ⟨J', k1, k2, k3, k4⟩ := ih (I ||| 2 ^ y) (by rw [cnt_add hy y2]; omega) y3 (inc_or hs (inc_pow (j2 y y1)))
   exact ⟨J', k1, (inc_or_l _ _).trans k2, k3, k4⟩
  ·have := h.ind_le hI hs
   exact ⟨I, hI, Inc.refl I, hs, by omega⟩
theorem Mat.rk_mono {s t : Nat} (hs : Inc s t) : rk m B s ≤ rk m B t := by
 obtain ⟨I, h1, h2, h3⟩ := h.rk_ind (s := s)
 rw [← h3]; exact h.ind_le h1 (h2.trans hs)
theorem Mat.rk_size (s : Nat) : rk m B s ≤ cnt m s := have _ := h; rk_le.2 fun b _ => cnt_le_of_inc (inc_and_l s b)
theorem Mat.rk_zero : rk m B 0 = 0 := by have := h.rk_size 0; rw [cnt_zero] at this; omega
theorem Mat.ind_iff {s : Nat} (hs : s < 2 ^ m) : Ind B s ↔ rk m B s = cnt m s := by
 constructor
 ·intro hI; exact Nat.le_antisymm (h.rk_size s) (h.ind_le hI (Inc.refl s))
 ·intro e
  obtain ⟨I, h1, h2, h3⟩ := h.rk_ind (s := s)
  have := inc_eq_of_cnt (m := m) h2 hs (by omega)
  rw [← this]; exact h1
/-- SUBMODULAR. -/
theorem Mat.rk_sub (s t : Nat) : rk m B (s ||| t) + rk m B (s &&& t) ≤ rk m B s + rk m B t := by
 obtain ⟨I, i1, i2, i3⟩ := h.rk_ind (s := s &&& t)
 obtain ⟨J, j1, j2, j3, j4⟩ := h.extend (u := s ||| t) _ I (Nat.le_refl _) i1 (i2.trans ((inc_and_l s t).trans (inc_or_l s t)))
 have a1 : cnt m (J &&& s) ≤ rk m B s := h.ind_le (j1.mono (inc_and_l J s)) (inc_and_r J s)
 have a2 : cnt m (J &&& t) ≤ rk m B t := h.ind_le (j1.mono (inc_and_l J t)) (inc_and_r J t)
 have a3 := cnt_or_and m (J &&& s) (J &&& t)
 have a4 : cnt m J ≤ cnt m (J &&& s ||| J &&& t) := cnt_le_of_inc fun i hi => by
  have := j3 i hi
  rw [Nat.testBit_or, Bool.or_eq_true] at this
  rw [Nat.testBit_or, Nat.testBit_and, Nat.testBit_and, hi]
  simpa using this
 have a5 : cnt m I ≤ cnt m (J &&& s &&& (J &&& t)) := cnt_le_of_inc fun i hi => by
  have q1 := j2 i hi
  have q2 := i2 i hi
  rw [Nat.testBit_and, Bool.and_eq_true] at q2
  simp only [Nat.testBit_and, q1, q2.1, q2.2]; rfl
 omega
/-- One element more: one more at most. -/
theorem Mat.rk_step (s : Nat) {i : Nat} (hi : i < m) : rk m B (s ||| 2 ^ i) ≤ rk m B s + 1 := by
 have h1 := h.rk_sub s (2 ^ i)
 have h2 := h.rk_size (2 ^ i)
 have h3 : cnt m (2 ^ i) = 1 := by
  have := cnt_add (m := m) (s := 0) hi (by simp)
  rw [Nat.zero_or, cnt_zero] at this; exact this
 omega
/-- What single elements do not make more, together they do not. -/
theorem Mat.rk_all {s t : Nat} (ht : t < 2 ^ m) (h1 : ∀ i, t.testBit i = true → rk m B (s ||| 2 ^ i) = rk m B s) : rk m B (s ||| t) = rk m B s := by
 refine set_ind (m := m) (fun t => (∀ i, t.testBit i = true → rk m B (s ||| 2 ^ i) = rk m B s) → rk m B (s ||| t) = rk m B s) (fun _ => by rw [Nat.or_zero]) ?_ t ht h1
 intro t i ht hi hti ih hall
 have e1 := ih fun j hj => hall j (by rw [Nat.testBit_or, hj]; rfl)
 have e2 := hall i (by rw [Nat.testBit_or, testBit_pow]; simp)
 have e3 := h.rk_sub (s ||| t) (s ||| 2 ^ i)
 have e4 : s ||| t ||| (s ||| 2 ^ i) = s ||| (t ||| 2 ^ i) := by
  apply Nat.eq_of_testBit_eq; intro j
  simp only [Nat.testBit_or]
  cases s.testBit j <;> simp
 rw [e4] at e3
 have e5 : rk m B s ≤ rk m B ((s ||| t) &&& (s ||| 2 ^ i)) := h.rk_mono (inc_and (inc_or_l s t) (inc_or_l s _))
 have e6 : rk m B s ≤ rk m B (s ||| (t ||| 2 ^ i)) := h.rk_mono (inc_or_l s _)
 omega
end
def mkset : Nat → (Nat → Bool) → Nat
 | 0, _ => 0
 | m + 1, p => mkset m p ||| (if p m = true then 2 ^ m else 0)
theorem mkset_bit (m : Nat) (p : Nat → Bool) (i : Nat) : (mkset m p).testBit i = (decide (i < m) && p i) := by
 induction m with
 | zero => simp [mkset]
 | succ m ih =>
  rw [mkset, Nat.testBit_or, ih]
  rcases Nat.lt_trichotomy i m with c | c | c
  ·have : (if p m = true then 2 ^ m else 0).testBit i = false := by
    split
    ·rw [testBit_pow]; simp; omega
    ·simp
   rw [this, Bool.or_false]
   simp [c, show i < m + 1 by omega]
  ·subst c
   cases h : p i
   ·simp
   ·simp [testBit_pow]
  ·have : (if p m = true then 2 ^ m else 0).testBit i = false := by
    split
    ·rw [testBit_pow]; simp; omega
    ·simp
   rw [this, Bool.or_false]
   simp [show ¬ i < m by omega, show ¬ i < m + 1 by omega]
theorem mkset_lt (m : Nat) (p : Nat → Bool) : mkset m p < 2 ^ m := lt_of_bits fun i hi => by rw [mkset_bit]; simp; omega
theorem axioms_size_nat {a : Nat} (h : a < 256) : axioms_size (a : Int) = some ((size a : Nat) : Int) := by
 unfold axioms_size
 rw [chk_pos (by omega)]
 simp [bits_OnesCount, oc_size h]
/-- Whether each element of a that b has not may be exchanged. -/
def Exch (B : List Nat) (a b : Nat) : Prop := ∀ x, a.testBit x = true → b.testBit x = false → ∃ y, b.testBit y = true ∧ a.testBit y = false ∧ dif a (2 ^ x) ||| 2 ^ y ∈ B
theorem axioms_exchange_spec {m : Nat} {B : List Nat} (hf : Fam m B) (n : Int) {a b : Nat} (ha : a < 256) (hb : b < 256) : Gets (axioms_exchange n (cs B) a b) (fun r => r = true ↔ Exch B a b) := by
  have hlen := hf.len
  unfold axioms_exchange
  simp only [dif_nat]
  have hda : dif a b < 256 := dif_lt (n := 8) ha
  have hdb : dif b a < 256 := dif_lt (n := 8) hb
  refine gBind (R := fun z => match z with | .inl _ => Exch B a b | .inr r => r = false ∧ ¬ Exch B a b)
    (gLoop (fun o => ∃ t : Nat, o = (t : Int) ∧ t < 256 ∧ Inc t (dif a b) ∧ ∀ x, a.testBit x = true → b.testBit x = false → t.testBit x = false → ∃ y, b.testBit y = true ∧ a.testBit y = false ∧ dif a (2 ^ x) ||| 2 ^ y ∈ B) (fun o => o.toNat) (s0 := ((dif a b : Nat) : Int)) ⟨_, rfl, hda, Inc.refl _, fun x h1 h2 h3 => ?_⟩ ?_) ?_
  · rw [testBit_dif, h1, h2] at h3; cases h3
  · rintro _ ⟨t, rfl, ht, hta, hall⟩
    refine gIte (fun h1 => ?_) fun h1 => gSome fun x h2 h3 => hall x h2 h3 (by have : t = 0 := by omega
                                                                               subst this; simp)
    have hlow := low_spec ht (show t ≠ 0 by omega)
    have hbit := hta _ hlow.bit
    rw [testBit_dif] at hbit
    simp only [Bool.and_eq_true, Bool.not_eq_true'] at hbit
    have hless := hlow.less
    refine gChk (by omega) ?_
    simp only [hlow.neg, hlow.rest, dif_nat]
    refine gBind (R := fun r => r = true ↔ ∃ y, b.testBit y = true ∧ a.testBit y = false ∧ dif a (2 ^ lo1 t) ||| 2 ^ y ∈ B)
      (gLoop (fun o => ∃ u : Nat, o.2 = (u : Int) ∧ u < 256 ∧ Inc u (dif b a) ∧ (o.1 = true → ∃ y, b.testBit y = true ∧ a.testBit y = false ∧ dif a (2 ^ lo1 t) ||| 2 ^ y ∈ B) ∧ (o.1 = false → ∀ y, b.testBit y = true → a.testBit y = false → u.testBit y = false → dif a (2 ^ lo1 t) ||| 2 ^ y ∉ B)) (fun o => o.2.toNat) (s0 := (false, ((dif b a : Nat) : Int)))
        ⟨_, rfl, hdb, Inc.refl _, fun h => by simp at h, fun _ y h1 h2 h3 => ?_⟩ ?_) ?_
    · rw [testBit_dif, h1, h2] at h3; cases h3
    · rintro ⟨ok, _⟩ ⟨u, rfl, hu, huc, hok1, hok2⟩
      simp only at hok1 hok2 ⊢
      refine gIte (fun h2 => ?_) fun h2 => gSome ?_
      · have hlow2 := low_spec hu (show u ≠ 0 by omega)
        have hbit2 := huc _ hlow2.bit
        rw [testBit_dif] at hbit2
        simp only [Bool.and_eq_true, Bool.not_eq_true'] at hbit2
        have hless2 := hlow2.less
        refine gChk (by omega) ?_
        simp only [hlow2.neg, hlow2.rest, or_nat]
        refine gBind (BinarySearch_spec (cs B) _ hf.Rise (by simp; omega)) fun y hy => gChk (by omega) (gSome ⟨⟨_, rfl, by omega, (inc_dif _ _).trans huc, fun h3 => ?_, fun h3 y' h4 h5 h6 => ?_⟩, by simp only [toNat_nat]; omega⟩)
        · exact ⟨_, hbit2.1, hbit2.2, (cs_mem _ _).1 (hy.1 h3)⟩
        · rw [testBit_dif, testBit_pow] at h6
          by_cases e : lo1 u = y'
          · subst e
            intro h7
            have := hy.2 ((cs_mem _ _).2 h7)
            simp only at h3
            rw [h3] at this; cases this
          · have : decide (lo1 u = y') = false := by simp [e]
            rw [this] at h6
            refine hok2 ?_ y' h4 h5 (by simpa using h6)
            cases ok
            · rfl
            · exact absurd rfl h2.2
      · show ok = true ↔ _
        constructor
        · exact hok1
        · rintro ⟨y, h3, h4, h5⟩
          cases hk : ok
          · exfalso
            have hu0 : u = 0 := by
              rcases Nat.eq_zero_or_pos u with q | q
              · exact q
              · exact absurd ⟨by omega, by rw [hk]; simp⟩ h2
            subst hu0
            exact hok2 hk y h3 h4 (by simp) h5
          · rfl
    · intro ok hok
      refine gIte (fun h2 => gSome ⟨rfl, fun h3 => h2 (hok.2 (h3 _ hbit.1 hbit.2))⟩) fun h2 => gChk (by omega) (gSome ⟨⟨_, rfl, by omega, (inc_dif _ _).trans hta, fun x h3 h4 h5 => ?_⟩, by simp only [toNat_nat]; omega⟩)
      rw [testBit_dif, testBit_pow] at h5
      by_cases e : lo1 t = x
      · subst e; exact hok.1 (by simpa using h2)
      · have : decide (lo1 t = x) = false := by simp [e]
        rw [this] at h5
        exact hall x h3 h4 (by simpa using h5)
  · rintro (u | rr) hz
    · exact gSome ⟨fun _ => hz, fun _ => rfl⟩
    · exact gSome ⟨fun h => (by rw [hz.1] at h; cases h), fun h => absurd h hz.2⟩
theorem axioms_Check_spec (n : Int) (l : List Int) (hl : l.length ≤ 9223372036854775807) : Gets (axioms_Check n l) (fun r => (r = 0 ∧ ∃ m B, n = (m : Nat) ∧ l = cs B ∧ Mat m B) ∨ (r ≠ 0 ∧ ¬ ∃ m B, n = (m : Nat) ∧ l = cs B ∧ Mat m B)) := by
 unfold axioms_Check
 refine gBind (sets_Family_spec n l hl) fun y hy => gIte (fun h => gSome (.inr ⟨by omega, ?_⟩)) fun h => ?_
 ·rintro ⟨m, B, rfl, rfl, hM⟩
  rcases hy with ⟨q, _⟩ | ⟨_, q⟩
  ·rcases h with h | h
   ·exact h q
   ·have : B.length = 0 := by simpa using h
    exact hM.ne (List.eq_nil_of_length_eq_zero this)
  ·exact q ⟨m, B, rfl, rfl, hM.toFam⟩
 obtain ⟨m, B, rfl, rfl, hf⟩ : ∃ m B, n = (m : Nat) ∧ l = cs B ∧ Fam m B := by
  rcases hy with ⟨_, q⟩ | ⟨q, _⟩
  ·exact q
  ·omega
 have h256 := pow_le8 hf.m8
 have hlen := hf.len
 have uniq : ∀ {p : Nat → List Nat → Prop}, (∃ m' L', (m : Int) = (m' : Nat) ∧ cs B = cs L' ∧ p m' L') → p m B := by
  rintro p ⟨m', L', h1, h2, h3⟩
  have : m' = m := by omega
  subst this
  rw [← cs_inj h2] at h3; exact h3
 have hp : 0 < B.length := by rw [cs_len] at h; omega
 have lt : ∀ k, k < B.length → B.getD k 0 < 2 ^ m := fun k hk => hf.lt _ (mem_getD.2 ⟨k, hk, rfl⟩)
 have sz : ∀ k, k < B.length → size (B.getD k 0) = cnt m (B.getD k 0) := fun k hk => size_of_lt (lt k hk) hf.m8
 simp only [cs_len, cs_get]
 refine gBind (R := fun z => match z with | .inl _ => ∀ k, k < B.length → cnt m (B.getD k 0) = cnt m (B.getD 0 0) | .inr r => r = 1 ∧ ¬ ∀ k, k < B.length → cnt m (B.getD k 0) = cnt m (B.getD 0 0))
  (gFor B.length (fun k v => v = (k : Int) ∧ ∀ j, j < k → cnt m (B.getD j 0) = cnt m (B.getD 0 0)) (Nat.zero_le _) ⟨rfl, none_all⟩ ?_) ?_
 ·rintro k _ hk ⟨rfl, hb⟩
  refine gIte (fun h1 => gChk (by omega) ?_) fun h1 => gSome fun j hj => hb j (by omega)
  have hk' : k < B.length := by omega
  have l1 := lt k hk'
  have l2 := lt 0 hp
  simp only [toNat_nat]
  rw [axioms_size_nat (by omega), axioms_size_nat (by omega)]
  simp only [Option.bind_some]
  refine gChk (by omega) (gIte (fun h2 => gSome ⟨rfl, fun h3 => h2 ?_⟩) fun h2 => gSome ⟨hk', by simp, step_all hb ?_⟩)
  ·have := h3 k hk'
   rw [← sz k hk', ← sz 0 hp] at this; omega
  ·rw [← sz k hk', ← sz 0 hp]; omega
 ·rintro (u | rr) hz
  ·refine gBind (R := fun z => match z with | .inl _ => ∀ k, k < B.length → ∀ j, j < B.length → Exch B (B.getD k 0) (B.getD j 0) | .inr r => r = 3 ∧ ¬ ∀ k, k < B.length → ∀ j, j < B.length → Exch B (B.getD k 0) (B.getD j 0))
    (gFor B.length (fun k v => v = (k : Int) ∧ ∀ i, i < k → ∀ j, j < B.length → Exch B (B.getD i 0) (B.getD j 0)) (Nat.zero_le _) ⟨rfl, none_all⟩ ?_) ?_
   ·rintro k _ hk ⟨rfl, hb⟩
    refine gIte (fun h1 => gChk (by omega) ?_) fun h1 => gSome fun j hj => hb j (by omega)
    have hk' : k < B.length := by omega
    simp only [toNat_nat]
    refine gBind (R := fun z => match z with | .inl _ => ∀ j, j < B.length → Exch B (B.getD k 0) (B.getD j 0) | .inr r => r = 3 ∧ ¬ ∀ j, j < B.length → Exch B (B.getD k 0) (B.getD j 0))
     (gFor B.length (fun j v => v = (j : Int) ∧ ∀ i, i < j → Exch B (B.getD k 0) (B.getD i 0)) (Nat.zero_le _) ⟨rfl, none_all⟩ ?_) ?_
    ·rintro j _ hj ⟨rfl, hbj⟩
     refine gIte (fun h2 => gChk (by omega) ?_) fun h2 => gSome fun i hi => hbj i (by omega)
     have hj' : j < B.length := by omega
     have l1 := lt k hk'
     have l2 := lt j hj'
     simp only [toNat_nat]
     refine gBind (axioms_exchange_spec hf m (by omega) (by omega)) fun r hr => gIte (fun h3 => gSome ⟨rfl, fun h4 => h3 (hr.2 (h4 j hj'))⟩) fun h3 => gSome ⟨hj', by simp, step_all hbj (hr.1 (by simpa using h3))⟩
    ·rintro (u | rr) hz2
     ·exact gSome ⟨hk', by simp, step_all hb hz2⟩
     ·exact gSome ⟨hz2.1, fun h4 => hz2.2 (h4 k hk')⟩
   ·rintro (u | rr) hz2
    ·refine gSome (.inl ⟨rfl, m, B, rfl, rfl, hf, ?_, fun a ha b hb => ?_, fun a ha b hb x h1 h2 => ?_⟩)
     ·intro e; rw [e] at hp; simp at hp
     ·obtain ⟨i, h1, rfl⟩ := mem_getD.1 ha
      obtain ⟨j, h2, rfl⟩ := mem_getD.1 hb
      rw [hz i h1, hz j h2]
     ·obtain ⟨i, h3, rfl⟩ := mem_getD.1 ha
      obtain ⟨j, h4, rfl⟩ := mem_getD.1 hb
      exact hz2 i h3 j h4 x h1 h2
    ·refine gSome (.inr ⟨by rw [hz2.1]; simp, fun hn => hz2.2 fun k hk j hj => ?_⟩)
     exact (uniq hn).ex _ (mem_getD.2 ⟨k, hk, rfl⟩) _ (mem_getD.2 ⟨j, hj, rfl⟩)
  ·refine gSome (.inr ⟨by rw [hz.1]; simp, fun hn => hz.2 fun k hk => ?_⟩)
   exact (uniq hn).eqc _ (mem_getD.2 ⟨k, hk, rfl⟩) _ (mem_getD.2 ⟨0, hp, rfl⟩)
theorem Mat.check {m : Nat} {B : List Nat} (h : Mat m B) : axioms_Check m (cs B) = some 0 := by
 obtain ⟨r, h1, h2⟩ := axioms_Check_spec m (cs B) (by have := h.len; simp; omega)
 rcases h2 with ⟨rfl, _⟩ | ⟨_, hn⟩
 ·exact h1
 ·exact absurd ⟨m, B, rfl, rfl, h⟩ hn
/-- The ranks of all sets, as a list. -/
def rkL (m : Nat) (B : List Nat) : List Nat := (List.range (2 ^ m)).map (rk m B)
theorem rkL_len (m : Nat) (B : List Nat) : (rkL m B).length = 2 ^ m := by simp [rkL]
theorem rkL_get (m : Nat) (B : List Nat) {s : Nat} (hs : s < 2 ^ m) : (rkL m B).getD s 0 = rk m B s := by
 simp [rkL, List.getD_eq_getElem?_getD, hs]
theorem rk_take_succ (m : Nat) (B : List Nat) (s : Nat) {k : Nat} (hk : k < B.length) : rk m (B.take (k + 1)) s = max (rk m (B.take k) s) (cnt m (s &&& B.getD k 0)) := by
 unfold rk
 rw [List.take_succ_eq_append_getElem hk, List.foldl_append, List.getD_eq_getElem?_getD, List.getElem?_eq_getElem hk]; rfl
theorem set_getD {l : List Int} {k : Nat} (v : Int) (hk : k < l.length) (j : Nat) : (l.set k v).getD j 0 = if j = k then v else l.getD j 0 := by
 simp only [List.getD_eq_getElem?_getD, List.getElem?_set]
 by_cases e : k = j
 ·subst e; simp [hk]
 ·rw [if_neg e, if_neg (fun e' => e e'.symm)]
theorem list_ext_getD {l k : List Int} (h : l.length = k.length) (e : ∀ i, i < l.length → l.getD i 0 = k.getD i 0) : l = k := by
 apply List.ext_getElem h
 intro i h1 h2
 have := e i h1
 simpa [List.getD_eq_getElem?_getD, List.getElem?_eq_getElem h1, List.getElem?_eq_getElem h2] using this
theorem filter_fam {m : Nat} (h8 : m ≤ 8) (p : Nat → Bool) : Fam m ((List.range (2 ^ m)).filter p) := by
  refine ⟨h8, fun s hs => by simpa using (List.mem_filter.1 hs).1, fun i j hij hj => ?_⟩
  have hp : ((List.range (2 ^ m)).filter p).Pairwise (· < ·) := List.Pairwise.filter _ List.pairwise_lt_range
  have hi := Nat.lt_trans hij hj
  have := List.pairwise_iff_getElem.1 hp i j hi hj hij
  rw [List.getD_eq_getElem?_getD, List.getD_eq_getElem?_getD, List.getElem?_eq_getElem hj, List.getElem?_eq_getElem hi]
  exact this
theorem bx {a b : Nat} (h : ∀ j, a.testBit j = b.testBit j) : a = b := Nat.eq_of_testBit_eq h
theorem inc_and_self {a G : Nat} (h : Inc a G) : a &&& G = a := (sub_iff_and a G).2 h
def cpl (m s : Nat) : Nat := dif (2 ^ m - 1) s
theorem full_bit (m i : Nat) : (2 ^ m - 1).testBit i = decide (i < m) := Nat.testBit_two_pow_sub_one m i
theorem cpl_bit (m s i : Nat) : (cpl m s).testBit i = (decide (i < m) && !s.testBit i) := by rw [cpl, testBit_dif, full_bit]
theorem cpl_cnt {m s : Nat} : cnt m (cpl m s) + cnt m s = m := by
 have h1 := cnt_split m (2 ^ m - 1) s
 have h2 : cnt m (2 ^ m - 1 &&& s) = cnt m s := cnt_congr fun i hi => by rw [Nat.testBit_and, full_bit]; simp [hi]
 have h3 : cnt m (2 ^ m - 1) = m := by
  have : ∀ k, k ≤ m → cnt k (2 ^ m - 1) = k := fun k => by
   induction k with
   | zero => intro _; rfl
   | succ k ih => intro hk; simp only [cnt]; rw [ih (by omega), full_bit]; simp [show k < m by omega]
  exact this m (Nat.le_refl _)
 unfold cpl
 omega
theorem axioms_ranks_spec {m : Nat} {B : List Nat} (hf : Fam m B) : axioms_ranks m (cs B) = some (cs (rkL m B)) := by
 refine Gets.eq ?_
 have h256 := pow_le8 hf.m8
 have h8 := hf.m8
 have hlen := hf.len
 have hpos : 0 < 2 ^ m := Nat.pow_pos (by omega)
 unfold axioms_ranks
 simp only [toNat_nat, shl_nat', List.length_replicate, cs_len, cs_get]
 refine gChk (by omega) (gBind (R := fun o => o = cs (rkL m B)) (gFor (2 ^ m) (fun k x => x.2 = (k : Int) ∧ x.1.length = 2 ^ m ∧ (∀ j, j < k → x.1.getD j 0 = ((rk m B j : Nat) : Int)) ∧ ∀ j, k ≤ j → j < 2 ^ m → x.1.getD j 0 = 0) (Nat.zero_le _) ⟨rfl, by simp, none_all, fun j _ hj => ?_⟩ ?_) fun o ho => gSome ho)
 ·simp [List.getD_eq_getElem?_getD, List.getElem?_replicate, hj]
 ·rintro k ⟨x, _⟩ hk ⟨rfl, hxl, hlo, hhi⟩
  simp only at hxl hlo hhi ⊢
  refine gIte (fun h1 => ?_) fun h1 => gSome ?_
  ·have hk' : k < 2 ^ m := by omega
   refine gBind (R := fun o => o.length = 2 ^ m ∧ (∀ j, j ≠ k → o.getD j 0 = x.getD j 0) ∧ o.getD k 0 = ((rk m B k : Nat) : Int))
    (gFor B.length (fun i y => y.2 = (i : Int) ∧ y.1.length = 2 ^ m ∧ (∀ j, j ≠ k → y.1.getD j 0 = x.getD j 0) ∧ y.1.getD k 0 = ((rk m (B.take i) k : Nat) : Int)) (Nat.zero_le _) ⟨rfl, hxl, fun _ _ => rfl, ?_⟩ ?_) ?_
   ·simp only; rw [hhi k (Nat.le_refl _) hk']; rfl
   ·rintro i ⟨y, _⟩ hi ⟨rfl, hyl, hne, hkk⟩
    simp only at hyl hne hkk ⊢
    refine gIte (fun h2 => gChk (by omega) (gChk (by omega) ?_)) fun h2 => gSome ⟨hyl, hne, by rw [hkk, List.take_of_length_le (by omega)]⟩
    have hi' : i < B.length := by omega
    have hlt := hf.lt _ (mem_getD.2 ⟨i, hi', rfl⟩)
    simp only [toNat_nat, and_nat]
    rw [axioms_size_nat (by have := and_lt (b := B.getD i 0) hk'; omega)]
    simp only [Option.bind_some]
    refine gChk (by omega) (gSome ⟨hi', by simp, by simpa using hyl, fun j hj => ?_, ?_⟩)
    ·rw [set_getD _ (by omega), if_neg hj]; exact hne j hj
    ·rw [set_getD _ (by omega), if_pos rfl, hkk, rk_take_succ m B k hi', size_of_lt (and_lt hk') h8]
     omega
   ·rintro o ⟨h2, h3, h4⟩
    refine gSome ⟨hk', by simp, h2, step_all (fun j hj => by rw [h3 j (by omega)]; exact hlo j hj) h4, fun j hj hj' => by rw [h3 j (by omega)]; exact hhi j (by omega) hj'⟩
  ·have : k = 2 ^ m := by omega
   subst this
   refine list_ext_getD (by rw [hxl, cs_len, rkL_len]) fun i hi => ?_
   rw [hlo i (by omega), cs_get, rkL_get m B (by omega)]
theorem axioms_Ranks_ok {m : Nat} {B : List Nat} (h : Mat m B) : axioms_Ranks m (cs B) = some (cs (rkL m B), 0) := by
 unfold axioms_Ranks
 rw [h.check]
 simp [axioms_ranks_spec h.toFam]
theorem sumN_split (a : Nat) (f : Nat → Int) : ∀ b, sumN (a + b) f = sumN a f + sumN b (fun i => f (a + i))
 | 0 => by simp [sumN]
 | b + 1 => by
  rw [← Nat.add_assoc]
  simp only [sumN]
  rw [sumN_split a f b]; omega
theorem sumN_two (m : Nat) (f : Nat → Int) : sumN (2 ^ (m + 1)) f = sumN (2 ^ m) f + sumN (2 ^ m) (fun i => f (2 ^ m + i)) := by
 rw [show 2 ^ (m + 1) = 2 ^ m + 2 ^ m by rw [Nat.pow_succ]; omega, sumN_split]
theorem add_bit {m s : Nat} (h : s < 2 ^ m) (i : Nat) : (2 ^ m + s).testBit i = (decide (i = m) || s.testBit i) := by
 rw [Nat.add_comm, ← Nat.or_eq_add_of_lt h, Nat.testBit_or, testBit_pow, Bool.or_comm]
 congr 1
 exact decide_eq_decide.2 ⟨fun e => e.symm, fun e => e.symm⟩
where
 Nat.or_eq_add_of_lt {m s : Nat} (h : s < 2 ^ m) : s ||| 2 ^ m = s + 2 ^ m := by
  have := Nat.two_pow_add_eq_or_of_lt h 1
  rw [Nat.mul_one] at this
  rw [Nat.or_comm, ← this, Nat.add_comm]
theorem xor_pow_lt {m s e : Nat} (h : s < 2 ^ m) (he : e < m) : s ^^^ 2 ^ e < 2 ^ m := Nat.xor_lt_two_pow h (pow_lt he)
/-- One element turned over: all sets again. -/
theorem sumN_turn : ∀ (m e : Nat) (f : Nat → Int), e < m → sumN (2 ^ m) (fun s => f (s ^^^ 2 ^ e)) = sumN (2 ^ m) f
 | 0, _, _, h => absurd h (Nat.not_lt_zero _)
 | m + 1, e, f, h => by
  rw [sumN_two, sumN_two]
  rcases Nat.lt_succ_iff_lt_or_eq.1 h with c | rfl
  ·rw [sumN_turn m e f c]
   congr 1
   rw [← sumN_turn m e (fun i => f (2 ^ m + i)) c]
   refine sumN_congr fun s hs => ?_
   congr 1
   apply Nat.eq_of_testBit_eq; intro i
   rw [Nat.testBit_xor, add_bit hs, add_bit (xor_pow_lt hs c), Nat.testBit_xor, testBit_pow]
   by_cases e1 : i = m
   ·subst e1
    have : decide (e = i) = false := by simp; omega
    rw [bit_ge hs (Nat.le_refl _), this]; simp
   ·simp [e1]
  ·have h1 : sumN (2 ^ e) (fun s => f (s ^^^ 2 ^ e)) = sumN (2 ^ e) (fun i => f (2 ^ e + i)) := sumN_congr fun s hs => by
    congr 1
    apply Nat.eq_of_testBit_eq; intro i
    rw [Nat.testBit_xor, add_bit hs, testBit_pow]
    by_cases e1 : i = e
    ·subst e1; rw [bit_ge hs (Nat.le_refl _)]; simp
    ·simp [e1, Ne.symm e1]
   have h2 : sumN (2 ^ e) (fun i => f ((2 ^ e + i) ^^^ 2 ^ e)) = sumN (2 ^ e) f := sumN_congr fun s hs => by
    congr 1
    apply Nat.eq_of_testBit_eq; intro i
    rw [Nat.testBit_xor, add_bit hs, testBit_pow]
    by_cases e1 : i = e
    ·subst e1; rw [bit_ge hs (Nat.le_refl _)]; simp
    ·simp [e1, Ne.symm e1]
   rw [h1, h2, Int.add_comm]
theorem sumN_neg (n : Nat) (g : Nat → Int) : sumN n (fun i => - g i) = - sumN n g := by
 have := sumN_mul n (-1) g
 rw [show (fun i => -1 * g i) = (fun i => - g i) from funext fun i => by omega] at this
 omega
theorem sumN_turned {m e : Nat} {f : Nat → Int} (he : e < m) (h : ∀ s, s < 2 ^ m → f (s ^^^ 2 ^ e) = - f s) : sumN (2 ^ m) f = 0 := by
 have h1 := sumN_turn m e f he
 rw [sumN_congr h, sumN_neg] at h1
 omega
/-- Plus for even, minus for odd. -/
def sg (k : Nat) : Int := if k % 2 = 0 then 1 else -1
theorem sg_succ (k : Nat) : sg (k + 1) = - sg k := by
 unfold sg
 rcases Nat.mod_two_eq_zero_or_one k with c | c
 ·rw [if_neg (by omega), if_pos c]
 ·rw [if_pos (by omega), if_neg (by omega)]; rfl
section
variable {m : Nat} {B : List Nat} (h : Mat m B)
include h
theorem Mat.in_iff (s : Nat) : s ∈ B ↔ s < 2 ^ m ∧ rk m B s = cnt m s ∧ rk m B s = rk m B (2 ^ m - 1) := by
 have hf : ∀ b, b ∈ B → (2 ^ m - 1) &&& b = b := fun b hb => by
  rw [Nat.and_comm]
  exact inc_and_self fun x hx => by rw [full_bit]; simpa using bit_lt (h.lt b hb) hx
 have hb : ∀ b, b ∈ B → rk m B b = cnt m b := fun b hb => by
  have h1 := le_rk (m := m) (s := b) hb
  have h2 := h.rk_size b
  rw [Nat.and_self] at h1; omega
 have hfull : ∀ b, b ∈ B → rk m B (2 ^ m - 1) = cnt m b := fun b hb => by
  obtain ⟨b', h1, h2⟩ := h.rk_mem (2 ^ m - 1)
  rw [h2, hf b' h1]; exact h.eqc b' h1 b hb
 constructor
 ·intro hs; exact ⟨h.lt s hs, hb s hs, by rw [hb s hs, hfull s hs]⟩
 ·rintro ⟨h1, h2, h3⟩
  obtain ⟨b, b1, b2⟩ := (h.ind_iff h1).2 h2
  have := inc_eq_of_cnt b2 (h.lt b b1) (by rw [← hfull b b1]; omega)
  subst this; exact b1
/-- What is not free can be had instead of an element that is not within. -/
theorem Mat.fund {b X e : Nat} (hb : b ∈ B) (hX : Inc X b) (he : e < m) (hn : b.testBit e = false) (hr : rk m B (X ||| 2 ^ e) ≠ rk m B X) : ∃ f, b.testBit f = true ∧ X.testBit f = false ∧ dif b (2 ^ f) ||| 2 ^ e ∈ B := by
 obtain ⟨b1, b2, b3⟩ := (h.in_iff b).1 hb
 have iX : Ind B X := ⟨b, hb, hX⟩
 have lX := hX.lt b1
 have rX := (h.ind_iff lX).1 iX
 have hXe : X.testBit e = false := by
  cases q : X.testBit e
  ·rfl
  ·rw [hX e q] at hn; cases hn
 have hc := cnt_add (m := m) he hXe
 have hs := h.rk_step X he
 have hm := h.rk_mono (s := X) (t := X ||| 2 ^ e) (inc_or_l _ _)
 have iXe : Ind B (X ||| 2 ^ e) := (h.ind_iff (or_lt lX (pow_lt he))).2 (by omega)
 obtain ⟨J, j1, j2, j3, j4⟩ := h.extend (u := b ||| 2 ^ e) _ (X ||| 2 ^ e) (Nat.le_refl _) iXe (inc_or (hX.trans (inc_or_l _ _)) (inc_or_r _ _))
 have r1 := h.rk_mono (s := b) (t := b ||| 2 ^ e) (inc_or_l _ _)
 have lbe := or_lt b1 (pow_lt he)
 have r2 := h.rk_mono (s := b ||| 2 ^ e) (t := 2 ^ m - 1) fun i hi => by rw [full_bit]; simpa using bit_lt lbe hi
 have lJ := j3.lt lbe
 have rJ := (h.ind_iff lJ).1 j1
 have hJ : J ∈ B := (h.in_iff J).2 ⟨lJ, rJ, by omega⟩
 have hJe : J.testBit e = true := j2 e (by rw [Nat.testBit_or, testBit_pow]; simp)
 rcases Classical.em (∃ f, b.testBit f = true ∧ J.testBit f = false) with ⟨f, f1, f2⟩ | q
 ·refine ⟨f, f1, ?_, ?_⟩
  ·cases q : X.testBit f
   ·rfl
   ·rw [j2 f (by rw [Nat.testBit_or, q]; rfl)] at f2; cases f2
  ·have hfe : f ≠ e := fun q => by rw [q, hn] at f1; cases f1
   have inc : Inc J (dif b (2 ^ f) ||| 2 ^ e) := fun i hi => by
    have := j3 i hi
    rw [Nat.testBit_or, testBit_dif, testBit_pow, testBit_pow]
    rw [Nat.testBit_or, testBit_pow] at this
    by_cases c : f = i
    ·subst c; rw [f2] at hi; cases hi
    ·by_cases d : e = i
     ·simp [d]
     ·simpa [c, d] using this
   have lt2 : dif b (2 ^ f) ||| 2 ^ e < 2 ^ m := or_lt (dif_lt b1) (pow_lt he)
   have c1 := cnt_add (m := m) (s := dif b (2 ^ f)) he (by rw [testBit_dif, hn]; rfl)
   have c2 := cnt_dif b1 f1
   have := inc_eq_of_cnt inc lt2 (by omega)
   rw [← this]; exact hJ
 ·exfalso
  have inc : Inc (b ||| 2 ^ e) J := fun i hi => by
   rw [Nat.testBit_or, testBit_pow] at hi
   by_cases c : e = i
   ·subst c; exact hJe
   ·cases z : J.testBit i
    ·exact absurd ⟨i, by simpa [c] using hi, z⟩ q
    ·rfl
  have c1 := cnt_le_of_inc (m := m) inc
  have c2 := cnt_add (m := m) he hn
  omega
end
def uniL (m k : Nat) : List Nat := (List.range (2 ^ m)).filter fun s => cnt m s = k
theorem mem_uniL {m k s : Nat} : s ∈ uniL m k ↔ s < 2 ^ m ∧ cnt m s = k := by simp [uniL]
theorem uniL_fam {m : Nat} (h8 : m ≤ 8) (k : Nat) : Fam m (uniL m k) := filter_fam h8 _
theorem uni_up {m k s : Nat} (hs : s < 2 ^ m) (hc : cnt m s = k) (hk : k < m) : ∃ i, i < m ∧ s.testBit i = false ∧ s ||| 2 ^ i ∈ uniL m (k + 1) := by
 obtain ⟨i, hi, hb⟩ : ∃ i, i < m ∧ s.testBit i = false := by
  rcases Classical.em (∃ i, i < m ∧ s.testBit i = false) with c | c
  ·exact c
  ·have : cnt m (2 ^ m - 1) ≤ cnt m s := cnt_mono fun i hi _ => by
    cases q : s.testBit i with
    | true => rfl
    | false => exact absurd ⟨i, hi, q⟩ c
   have e : cnt m (2 ^ m - 1) = m := by
    have := cpl_cnt (m := m) (s := 0)
    rw [cnt_zero] at this
    have e2 : cpl m 0 = 2 ^ m - 1 := Nat.eq_of_testBit_eq fun i => by rw [cpl_bit, full_bit]; simp
    rw [e2] at this; omega
   omega
 exact ⟨i, hi, hb, mem_uniL.2 ⟨or_lt hs (pow_lt hi), by rw [cnt_add hi hb, hc]⟩⟩
theorem uni_ne {m : Nat} : ∀ k, k ≤ m → ∃ s, s ∈ uniL m k
 | 0, _ => ⟨0, mem_uniL.2 ⟨Nat.pow_pos (by omega), cnt_zero m⟩⟩
 | k + 1, h => by
  obtain ⟨s, hs⟩ := uni_ne (m := m) k (by omega)
  obtain ⟨h1, h2⟩ := mem_uniL.1 hs
  obtain ⟨i, _, _, h3⟩ := uni_up h1 h2 (by omega)
  exact ⟨_, h3⟩
theorem cnt_swap {m a x y : Nat} (ha : a < 2 ^ m) (hy : y < m) (h1 : a.testBit x = true) (h2 : a.testBit y = false) : cnt m (dif a (2 ^ x) ||| 2 ^ y) = cnt m a := by
 have hxy : (dif a (2 ^ x)).testBit y = false := by rw [testBit_dif, h2]; rfl
 rw [cnt_add hy hxy, cnt_dif ha h1]
theorem uni_mat {m k : Nat} (h8 : m ≤ 8) (hk : k ≤ m) : Mat m (uniL m k) where
 toFam := uniL_fam h8 k
 ne := fun q => by obtain ⟨s, hs⟩ := uni_ne k hk; rw [q] at hs; cases hs
 eqc := fun a ha b hb => by rw [(mem_uniL.1 ha).2, (mem_uniL.1 hb).2]
 ex := fun a ha b hb x h1 h2 => by
  obtain ⟨a1, a2⟩ := mem_uniL.1 ha
  obtain ⟨b1, b2⟩ := mem_uniL.1 hb
  have : ¬ Inc b a := fun q => by
   have := inc_eq_of_cnt q a1 (by omega)
   subst this; rw [h1] at h2; cases h2
  obtain ⟨y, y1, y2⟩ := not_inc this
  have hy := bit_lt b1 y1
  exact ⟨y, y1, y2, mem_uniL.2 ⟨or_lt (dif_lt a1) (pow_lt hy), by rw [cnt_swap a1 hy h1 y2, a2]⟩⟩
/-- The sets of a kind. -/
theorem axioms_family_spec (n : Int) (l : List Int) (hl : l.length ≤ 9223372036854775807) (kind : List Int → Int → Option Bool) (K : Nat → List Nat → Nat → Prop) [∀ m B s, Decidable (K m B s)]
    (hk : ∀ m B, n = (m : Nat) → l = cs B → Mat m B → ∀ s, s < 2 ^ m → kind (cs (rkL m B)) (s : Nat) = some (decide (K m B s))) :
    Gets (axioms_family n l kind) (fun r => (r.2 = 0 ∧ ∃ m B, n = (m : Nat) ∧ l = cs B ∧ Mat m B ∧ r.1 = cs ((List.range (2 ^ m)).filter fun s => K m B s)) ∨ (r.2 ≠ 0 ∧ r.1 = [] ∧ ¬ ∃ m B, n = (m : Nat) ∧ l = cs B ∧ Mat m B)) := by
  unfold axioms_family
  refine gBind (axioms_Check_spec n l hl) fun y hy => gIte (fun h => gSome (.inr ⟨h, rfl, ?_⟩)) fun h => ?_
  · rcases hy with ⟨q, _⟩ | ⟨_, q⟩
    · exact absurd q h
    · exact q
  · rcases hy with ⟨_, m, B, rfl, rfl, hM⟩ | ⟨q, _⟩
    · have h256 := pow_le8 hM.m8
      rw [axioms_ranks_spec hM.toFam]
      simp only [Option.bind_some, cs_len, rkL_len]
      refine gBind (R := fun o => o = cs ((List.range (2 ^ m)).filter fun s => K m B s)) (gFor (2 ^ m) (fun k x => x.2 = (k : Int) ∧ x.1 = cs ((List.range k).filter fun s => K m B s)) (Nat.zero_le _) ⟨rfl, rfl⟩ ?_) fun o ho => gSome (.inl ⟨rfl, m, B, rfl, rfl, hM, ho⟩)
      rintro k ⟨_, _⟩ hk' ⟨rfl, rfl⟩
      simp only
      refine gIte (fun h1 => ?_) fun h1 => gSome (by have : k = 2 ^ m := by omega
                                                     subst this; rfl)
      have hk2 : k < 2 ^ m := by omega
      rw [hk m B rfl rfl hM k hk2]
      simp only [Option.bind_some, decide_eq_true_eq]
      have hle : ((List.range k).filter fun s => K m B s).length ≤ k := by
        have := List.length_filter_le (fun s => decide (K m B s)) (List.range k)
        simpa using this
      refine gIte (fun h2 => gChk (by simp; omega) (gSome ⟨hk2, by simp, ?_⟩)) fun h2 => gSome ⟨hk2, by simp, ?_⟩
      · rw [List.range_succ, List.filter_append, cs_app]; simp [h2]
      · rw [List.range_succ, List.filter_append]; simp [h2]
    · exact absurd q h
/-- Each other element makes more of it. -/
def Flat (m : Nat) (B : List Nat) (s : Nat) : Prop := ∀ i, i < m → s.testBit i = false → rk m B (s ||| 2 ^ i) ≠ rk m B s
instance (m : Nat) (B : List Nat) (s : Nat) : Decidable (Flat m B s) := by unfold Flat; infer_instance
def Circ (m : Nat) (B : List Nat) (s : Nat) : Prop := rk m B s + 1 = cnt m s ∧ ∀ i, i < m → s.testBit i = true → rk m B (dif s (2 ^ i)) = cnt m (dif s (2 ^ i))
instance (m : Nat) (B : List Nat) (s : Nat) : Decidable (Circ m B s) := by unfold Circ; infer_instance
theorem testBit_iff_bit (s i : Nat) : iand ((s : Int) / 2 ^ i) 1 = 0 ↔ s.testBit i = false := by
 have := bit_nat s i
 rw [toNat_nat] at this
 rw [this]; cases s.testBit i <;> simp
theorem axioms_flat_nat {m : Nat} (B : List Nat) (h8 : m ≤ 8) {s : Nat} (hs : s < 2 ^ m) : axioms_flat (cs (rkL m B)) m s = some (decide (Flat m B s)) := by
 have h256 := pow_le8 h8
 refine Gets.eq ?_
 unfold axioms_flat
 simp only [cs_len, rkL_len]
 refine gBind (R := fun z => match z with | .inl _ => Flat m B s | .inr r => r = false ∧ ¬ Flat m B s)
  (gFor m (fun k v => v = (k : Int) ∧ ∀ i, i < k → s.testBit i = false → rk m B (s ||| 2 ^ i) ≠ rk m B s) (Nat.zero_le _) ⟨rfl, none_all⟩ ?_) ?_
 ·rintro k _ hk ⟨rfl, hb⟩
  refine gIte (fun h1 => ?_) fun h1 => gSome fun i hi => hb i (by omega)
  have hkm : k < m := by omega
  have hl := or_lt hs (pow_lt hkm)
  simp only [toNat_nat, shl_nat', or_nat]
  rw [← shl_nat']
  simp only [testBit_iff_bit, cs_get, rkL_get m B hl, rkL_get m B hs]
  refine gChk (by omega) (gIte (fun h2 => gSome ⟨rfl, fun h3 => h3 k hkm h2.1 (by omega)⟩) fun h2 => gSome ⟨hkm, by simp, step_all hb fun h3 h4 => h2 ⟨h3, by omega⟩⟩)
 ·rintro (u | rr) hz
  ·exact gSome (decide_eq_true hz).symm
  ·exact gSome (by rw [hz.1, decide_eq_false hz.2])
theorem axioms_Flats_spec (n : Int) (l : List Int) (hl : l.length ≤ 9223372036854775807) :
  Gets (axioms_Flats n l) (fun r => (r.2 = 0 ∧ ∃ m B, n = (m : Nat) ∧ l = cs B ∧ Mat m B ∧ r.1 = cs ((List.range (2 ^ m)).filter fun s => Flat m B s)) ∨ (r.2 ≠ 0 ∧ r.1 = [] ∧ ¬ ∃ m B, n = (m : Nat) ∧ l = cs B ∧ Mat m B)) := by
 unfold axioms_Flats
 refine gBind (axioms_family_spec n l hl _ Flat ?_) fun r hr => gSome hr
 rintro m B rfl rfl hM s hs
 unfold axioms_Flats_1
 rw [axioms_flat_nat B hM.m8 hs]; rfl
/-- The closure: its elements. -/
def IsCl (m : Nat) (B : List Nat) (s c : Nat) : Prop := c < 2 ^ m ∧ ∀ i, i < m → (c.testBit i = true ↔ s.testBit i = true ∨ rk m B (s ||| 2 ^ i) = rk m B s)
section
variable {m : Nat} {B : List Nat} (h : Mat m B)
include h
theorem Mat.cl_inc {s c : Nat} (hs : s < 2 ^ m) (hc : IsCl m B s c) : Inc s c := fun i hi => have _ := h; (hc.2 i (bit_lt hs hi)).2 (.inl hi)
theorem Mat.cl_rk {s c : Nat} (hs : s < 2 ^ m) (hc : IsCl m B s c) : rk m B c = rk m B s := by
 have e : s ||| c = c := (or_eq_iff s c).2 (h.cl_inc hs hc)
 have := h.rk_all (s := s) hc.1 fun i hi => by
  rcases (hc.2 i (bit_lt hc.1 hi)).1 hi with q | q
  ·have : s ||| 2 ^ i = s := by
    rw [Nat.or_comm]; exact (or_eq_iff _ _).2 (inc_pow q)
   rw [this]
  ·exact q
 rwa [e] at this
/-- What makes no more of a set makes no more of a greater one. -/
theorem Mat.rk_stay {s t i : Nat} (hst : Inc s t) (he : rk m B (s ||| 2 ^ i) = rk m B s) : rk m B (t ||| 2 ^ i) = rk m B t := by
 have h1 := h.rk_sub t (s ||| 2 ^ i)
 have e : t ||| (s ||| 2 ^ i) = t ||| 2 ^ i := by
  rw [← Nat.or_assoc]; congr 1
  rw [Nat.or_comm]; exact (or_eq_iff s t).2 hst
 rw [e] at h1
 have h2 : rk m B s ≤ rk m B (t &&& (s ||| 2 ^ i)) := h.rk_mono (inc_and hst (inc_or_l _ _))
 have h3 : rk m B t ≤ rk m B (t ||| 2 ^ i) := h.rk_mono (inc_or_l _ _)
 omega
end
theorem Flats_bad {n : Int} {l : List Int} {c : Int} (h : axioms_Check n l = some c) (h0 : c ≠ 0) : axioms_Flats n l = some ([], c) := by
 unfold axioms_Flats axioms_family
 rw [h]; simp [h0]
def flats (m : Nat) (B : List Nat) : List Nat := (List.range (2 ^ m)).filter fun s => Flat m B s
theorem mem_flats {m : Nat} {B : List Nat} {s : Nat} : s ∈ flats m B ↔ s < 2 ^ m ∧ Flat m B s := by simp [flats]
theorem Flats_ok {m : Nat} {B : List Nat} (h : Mat m B) (hl : B.length ≤ 9223372036854775807) : axioms_Flats m (cs B) = some (cs (flats m B), 0) := by
 refine Gets.eq ((axioms_Flats_spec m (cs B) (by simpa using hl)).mono fun r hr => ?_)
 rcases hr with ⟨h1, m', B', q1, q2, _, q3⟩ | ⟨_, _, q⟩
 ·have : m' = m := by omega
  subst this
  rw [← cs_inj q2] at q3
  exact Prod.ext q3 h1
 ·exact absurd ⟨m, B, rfl, rfl, h⟩ q
section
variable {m : Nat} {B : List Nat} (h : Mat m B)
include h
omit h in
theorem exists_set (m : Nat) (p : Nat → Bool) : ∃ c, c < 2 ^ m ∧ ∀ i, i < m → c.testBit i = p i := by
 induction m with
 | zero => exact ⟨0, by simp, fun i hi => by omega⟩
 | succ m ih =>
  obtain ⟨c, h1, h2⟩ := ih
  cases hp : p m with
  | false =>
   refine ⟨c, by rw [Nat.pow_succ]; omega, fun i hi => ?_⟩
   rcases Nat.lt_or_ge i m with q | q
   ·exact h2 i q
   ·have : i = m := by omega
    subst this; rw [hp]; exact bit_ge h1 (Nat.le_refl _)
  | true =>
   refine ⟨c ||| 2 ^ m, or_lt (by rw [Nat.pow_succ]; omega) (pow_lt (by omega)), fun i hi => ?_⟩
   rw [Nat.testBit_or, testBit_pow]
   rcases Nat.lt_or_ge i m with q | q
   ·rw [h2 i q]; simp; omega
   ·have : i = m := by omega
    subst this; simp [hp]
theorem Mat.cl_exists {s : Nat} (hs : s < 2 ^ m) : ∃ c, IsCl m B s c := by
 have _ := h
 obtain ⟨c, h1, h2⟩ := exists_set m fun i => s.testBit i || decide (rk m B (s ||| 2 ^ i) = rk m B s)
 exact ⟨c, h1, fun i hi => by rw [h2 i hi, Bool.or_eq_true, decide_eq_true_eq]⟩
end
section
variable {m : Nat} {B : List Nat} (h : Mat m B)
include h
theorem Mat.dep_circ : ∀ (k s : Nat), cnt m s ≤ k → s < 2 ^ m → rk m B s ≠ cnt m s → ∃ C, C < 2 ^ m ∧ Circ m B C ∧ Inc C s := by
 intro k
 induction k with
 | zero =>
  intro s hk hs hd
  have := h.rk_size s
  omega
 | succ k ih =>
  intro s hk hs hd
  have hsz := h.rk_size s
  rcases Classical.em (∃ i, i < m ∧ s.testBit i = true ∧ rk m B (dif s (2 ^ i)) ≠ cnt m (dif s (2 ^ i))) with ⟨i, hi, hb, q⟩ | q
  ·have hc := cnt_dif hs hb
   obtain ⟨C, c1, c2, c3⟩ := ih (dif s (2 ^ i)) (by omega) (dif_lt hs) q
   exact ⟨C, c1, c2, c3.trans (inc_dif _ _)⟩
  ·refine ⟨s, hs, ⟨?_, fun i hi hb => ?_⟩, Inc.refl s⟩
   ·have h0 : s ≠ 0 := by
     rintro rfl
     rw [h.rk_zero, cnt_zero] at hd; exact hd rfl
    obtain ⟨i, hb⟩ := exists_bit h0
    have hi := bit_lt hs hb
    have hc := cnt_dif hs hb
    have e : rk m B (dif s (2 ^ i)) = cnt m (dif s (2 ^ i)) := by
     rcases Classical.em (rk m B (dif s (2 ^ i)) = cnt m (dif s (2 ^ i))) with e | e
     ·exact e
     ·exact absurd ⟨i, hi, hb, e⟩ q
    have := h.rk_mono (inc_dif s (2 ^ i))
    omega
   ·rcases Classical.em (rk m B (dif s (2 ^ i)) = cnt m (dif s (2 ^ i))) with e | e
    ·exact e
    ·exact absurd ⟨i, hi, hb, e⟩ q
theorem Mat.cl_flat {s c : Nat} (hs : s < 2 ^ m) (hc : IsCl m B s c) : Flat m B c := by
 intro i hi hf e
 have h1 := h.cl_rk hs hc
 have h2 := h.rk_mono (s := s ||| 2 ^ i) (t := c ||| 2 ^ i) (inc_or ((h.cl_inc hs hc).trans (inc_or_l _ _)) (inc_or_r _ _))
 have h3 := h.rk_mono (inc_or_l s (2 ^ i))
 have := (hc.2 i hi).2 (.inr (by omega))
 rw [hf] at this; cases this
end
/-- How many sets lie within one. -/
theorem count_subsets : ∀ (m s : Nat), (List.range (2 ^ m)).countP (fun t => decide (Inc t s)) = 2 ^ cnt m s := by
 intro m
 induction m with
 | zero =>
  intro s
  have : decide (Inc 0 s) = true := decide_eq_true (inc_zero s)
  simp [cnt, List.range_succ, this]
 | succ m ih =>
  intro s
  have e : 2 ^ (m + 1) = 2 ^ m + 2 ^ m := by rw [Nat.pow_succ]; omega
  rw [e, List.range_add, List.countP_append, List.countP_map, ih s]
  have key : ∀ t, t < 2 ^ m → (Inc (2 ^ m + t) s ↔ s.testBit m = true ∧ Inc t s) := fun t ht => by
   have eo : 2 ^ m + t = 2 ^ m ||| t := by
    have h := Nat.two_pow_add_eq_or_of_lt ht 1
    simpa using h
   rw [eo]
   constructor
   ·intro h
    exact ⟨h m (by rw [Nat.testBit_or, testBit_pow]; simp), (inc_or_r _ _).trans h⟩
   ·rintro ⟨h1, h2⟩
    exact inc_or (inc_pow h1) h2
  have e2 : (List.range (2 ^ m)).countP ((fun t => decide (Inc t s)) ∘ fun x => 2 ^ m + x) = if s.testBit m = true then 2 ^ cnt m s else 0 := by
   split
   ·rename_i hb
    rw [← ih s]
    refine List.countP_congr fun t ht => ?_
    have := key t (List.mem_range.1 ht)
    simp only [Function.comp_apply, decide_eq_true_eq]
    rw [this]; simp [hb]
   ·rename_i hb
    rw [List.countP_eq_zero]
    intro t ht
    have := key t (List.mem_range.1 ht)
    simp only [Function.comp_apply, decide_eq_true_eq]
    rw [this]; simp [hb]
  rw [e2]
  simp only [cnt]
  split
  ·rw [Nat.pow_succ]; omega
  ·rw [Nat.add_zero, Nat.add_zero]
theorem sumN_count (F : List Nat) (s : Nat) : ∀ i, i ≤ F.length → sumN i (fun k => if Inc (F.getD k 0) s then 1 else 0) = (((F.take i).countP (fun t => decide (Inc t s)) : Nat) : Int) := by
 intro i
 induction i with
 | zero => intro _; rfl
 | succ i ih =>
  intro hi
  have hi' : i < F.length := by omega
  have etake : F.take (i + 1) = F.take i ++ [F.getD i 0] := by
   rw [List.take_add_one, List.getD_eq_getElem?_getD, List.getElem?_eq_getElem hi']; rfl
  simp only [sumN]
  rw [ih (by omega), etake, List.countP_append]
  generalize F.getD i 0 = y at *
  by_cases h : Inc y s
  ·rw [if_pos h]; simp [h]
  ·rw [if_neg h]; simp [h]
theorem sumN_abs {n : Nat} {g : Nat → Int} {c : Int} (hg : ∀ i, i < n → -c ≤ g i ∧ g i ≤ c) : -(n * c) ≤ sumN n g ∧ sumN n g ≤ n * c := by
 induction n with
 | zero => simp [sumN]
 | succ n ih =>
  simp only [sumN]
  have h1 := ih fun i hi => hg i (by omega)
  have h2 := hg n (by omega)
  have e : ((n + 1 : Nat) : Int) * c = n * c + c := by rw [Int.natCast_add, Int.add_mul]; simp
  rw [e]; omega
/-- The numbers, one behind the other. -/
def mobL (F : List Nat) : Nat → List Int
 | 0 => []
 | i + 1 => mobL F i ++ [if i = 0 then 1 else - sumN i (fun k => if Inc (F.getD k 0) (F.getD i 0) then (mobL F i).getD k 0 else 0)]
theorem mobL_len (F : List Nat) : ∀ i, (mobL F i).length = i
 | 0 => rfl
 | i + 1 => by simp only [mobL, List.length_append, mobL_len F i]; rfl
def mob (F : List Nat) (i : Nat) : Int := (mobL F (i + 1)).getD i 0
theorem mobL_get (F : List Nat) {k : Nat} : ∀ {i : Nat}, k < i → (mobL F i).getD k 0 = mob F k := by
 intro i
 induction i with
 | zero => intro h; omega
 | succ i ih =>
  intro h
  rcases Nat.lt_or_ge k i with q | q
  ·rw [← ih q]
   simp only [mobL, List.getD_eq_getElem?_getD]
   rw [List.getElem?_append_left (by rw [mobL_len]; exact q)]
  ·have : k = i := by omega
   subst this; rfl
theorem mob_eq (F : List Nat) (i : Nat) : mob F i = if i = 0 then 1 else - sumN i (fun k => if Inc (F.getD k 0) (F.getD i 0) then mob F k else 0) := by
 have e : mob F i = if i = 0 then 1 else - sumN i (fun k => if Inc (F.getD k 0) (F.getD i 0) then (mobL F i).getD k 0 else 0) := by
  unfold mob
  simp only [mobL, List.getD_eq_getElem?_getD]
  rw [List.getElem?_append_right (by rw [mobL_len]; exact Nat.le_refl _), mobL_len, Nat.sub_self]
  rfl
 rw [e]
 split
 ·rfl
 ·congr 1
  exact sumN_congr fun k hk => by rw [mobL_get F hk]
section
variable {m : Nat} {F : List Nat} (hF : Fam m F)
include hF
theorem Fam.idx {i j : Nat} (hi : i < F.length) (hj : j < F.length) (h : F.getD i 0 ≤ F.getD j 0) : i ≤ j := by
 rcases Nat.lt_or_ge j i with q | q
 ·have := hF.rise j i q hi; omega
 ·exact q
theorem Fam.inc_idx {i j : Nat} (hi : i < F.length) (hj : j < F.length) (h : Inc (F.getD i 0) (F.getD j 0)) : i ≤ j := by
 refine hF.idx hi hj ?_
 have := (sub_iff_and _ _).2 h
 rw [← this]; exact Nat.and_le_right
/-- What all within one come to. -/
theorem Fam.weisner {j : Nat} (hj : j < F.length) : sumN F.length (fun i => if Inc (F.getD i 0) (F.getD j 0) then mob F i else 0) = if j = 0 then 1 else 0 := by
 have cut : ∀ d, j + 1 + d ≤ F.length → sumN (j + 1 + d) (fun i => if Inc (F.getD i 0) (F.getD j 0) then mob F i else 0) = sumN (j + 1) (fun i => if Inc (F.getD i 0) (F.getD j 0) then mob F i else 0) := by
  intro d
  induction d with
  | zero => intro _; rfl
  | succ d ih =>
   intro hd
   have hn : ¬ Inc (F.getD (j + 1 + d) 0) (F.getD j 0) := fun c => by have := hF.inc_idx (i := j + 1 + d) (by omega) hj c; omega
   rw [show j + 1 + (d + 1) = (j + 1 + d) + 1 by omega]
   show sumN (j + 1 + d) _ + (if Inc (F.getD (j + 1 + d) 0) (F.getD j 0) then mob F (j + 1 + d) else 0) = _
   rw [ih (by omega), if_neg hn, Int.add_zero]
 have := cut (F.length - (j + 1)) (by omega)
 rw [show j + 1 + (F.length - (j + 1)) = F.length by omega] at this
 rw [this]
 simp only [sumN]
 rw [if_pos (Inc.refl _), mob_eq F j]
 by_cases h0 : j = 0
 ·subst h0; rfl
 ·rw [if_neg h0, if_neg h0]; omega
def bdd : Nat → Nat
 | 0 => 1
 | c + 1 => 2 ^ (c + 1) * bdd c
omit hF in
theorem bdd_mono : ∀ {a b : Nat}, a ≤ b → bdd a ≤ bdd b := by
  intro a b h
  induction b with
  | zero => have : a = 0 := by omega
            subst this; exact Nat.le_refl _
  | succ b ih =>
    rcases Nat.lt_or_ge a (b + 1) with q | q
    · refine Nat.le_trans (ih (by omega)) ?_
      simp only [bdd]
      exact Nat.le_mul_of_pos_left _ (Nat.pow_pos (by omega))
    · have : a = b + 1 := by omega
      subst this; exact Nat.le_refl _
theorem Fam.mob_bound (hsub : F.Sublist (List.range (2 ^ m))) : ∀ i, i < F.length → -(bdd (cnt m (F.getD i 0)) : Int) ≤ mob F i ∧ mob F i ≤ bdd (cnt m (F.getD i 0)) := by
 intro i
 induction i using Nat.strongRecOn with
 | ind i ih =>
  intro hi
  have h1 : 1 ≤ bdd (cnt m (F.getD i 0)) := bdd_mono (Nat.zero_le _)
  rw [mob_eq]
  split
  ·omega
  ·have hsm := hF.lt _ (mem_getD.2 ⟨i, hi, rfl⟩)
   generalize hs : F.getD i 0 = s at *
   -- the sum, by the number of sets within
   have hc : (F.take i).countP (fun t => decide (Inc t s)) ≤ 2 ^ cnt m s := by
    rw [← count_subsets m s]
    exact ((List.take_sublist i F).trans hsub).countP_le
   have key : ∀ (c : Nat), cnt m s = c + 1 → ∀ k, k < i → Inc (F.getD k 0) s → -(bdd c : Int) ≤ mob F k ∧ mob F k ≤ bdd c := by
    intro c hcc k hk hin
    have hne : F.getD k 0 < s := by rw [← hs]; exact hF.rise k i hk hi
    have hlt : cnt m (F.getD k 0) < cnt m s := by
     rcases Nat.lt_or_ge (cnt m (F.getD k 0)) (cnt m s) with q | q
     ·exact q
     ·have := inc_eq_of_cnt (m := m) hin hsm q
      omega
    have h2 := ih k hk (by omega)
    have h3 := bdd_mono (show cnt m (F.getD k 0) ≤ c by omega)
    omega
   cases hcs : cnt m s with
   | zero =>
    have hz : sumN i (fun k => if Inc (F.getD k 0) s then mob F k else 0) = 0 := by
     rw [sumN_congr (h := fun _ => 0) fun k hk => ?_, sumN_zero]
     refine if_neg fun hin => ?_
     have hne : F.getD k 0 < s := by rw [← hs]; exact hF.rise k i hk hi
     have := inc_eq_of_cnt (m := m) hin hsm (by omega)
     omega
    rw [hz]; simp [bdd]
   | succ c =>
    have kk := key c hcs
    have lo : sumN i (fun k => if Inc (F.getD k 0) s then mob F k else 0) ≤ sumN i (fun k => (bdd c : Int) * if Inc (F.getD k 0) s then 1 else 0) := sumN_le fun k hk => by
     split
     ·rename_i hin; have := kk k hk hin; omega
     ·omega
    have up : sumN i (fun k => (-(bdd c : Int)) * if Inc (F.getD k 0) s then 1 else 0) ≤ sumN i (fun k => if Inc (F.getD k 0) s then mob F k else 0) := sumN_le fun k hk => by
     split
     ·rename_i hin; have := kk k hk hin; omega
     ·omega
    rw [sumN_mul, sumN_count F s i (by omega)] at lo up
    rw [hcs] at hc
    have hb : (bdd c : Int) * (((F.take i).countP (fun t => decide (Inc t s)) : Nat) : Int) ≤ ((2 ^ (c + 1) * bdd c : Nat) : Int) := by
     have := Nat.mul_le_mul_left (bdd c) hc
     rw [Nat.mul_comm (2 ^ (c + 1))]
     exact_mod_cast this
    rw [Int.neg_mul] at up
    simp only [bdd]
    omega
/-- They are small. -/
theorem Fam.mob_small (hsub : F.Sublist (List.range (2 ^ m))) {i : Nat} (hi : i < F.length) : -68719476736 ≤ mob F i ∧ mob F i ≤ 68719476736 := by
 have h := hF.mob_bound hsub i hi
 have h8 : bdd (cnt m (F.getD i 0)) ≤ bdd 8 := bdd_mono (Nat.le_trans (cnt_le _ _) hF.m8)
 have e : bdd 8 = 68719476736 := by decide
 omega
theorem Fam.part_small (hsub : F.Sublist (List.range (2 ^ m))) (s : Nat) {i : Nat} (hi : i ≤ F.length) : -17592186044416 ≤ sumN i (fun k => if Inc (F.getD k 0) s then mob F k else 0) ∧ sumN i (fun k => if Inc (F.getD k 0) s then mob F k else 0) ≤ 17592186044416 := by
 have h := sumN_abs (n := i) (g := fun k => if Inc (F.getD k 0) s then mob F k else 0) (c := 68719476736) fun k hk => by
  have := hF.mob_small hsub (i := k) (by omega)
  split <;> omega
 have hl := hF.len
 have : (i : Int) * 68719476736 ≤ 256 * 68719476736 := Int.mul_le_mul_of_nonneg_right (by omega) (by omega)
 omega
end
section
variable {m : Nat} {B : List Nat} (h : Mat m B)
/-- Has no circuit but for its least element. -/
def NB (m : Nat) (B : List Nat) (s : Nat) : Prop := ∀ C, C < 2 ^ m → Circ m B C → ¬ Inc (dif C (2 ^ lo1 C)) s
instance (m : Nat) (B : List Nat) (s : Nat) : Decidable (NB m B s) := by unfold NB; infer_instance
include h
theorem Mat.circ_low {C : Nat} (hC : C < 2 ^ m) (hc : Circ m B C) : IsLow C (lo1 C) := by
 have h256 := pow_le8 h.m8
 refine low_spec (by omega) fun e => ?_
 subst e
 have := hc.1
 rw [cnt_zero] at this; omega
theorem Mat.NB_mono {s t : Nat} (hs : Inc s t) (ht : NB m B t) : NB m B s := have _ := h; fun C h1 h2 h3 => ht C h1 h2 (h3.trans hs)
theorem Mat.NB_ind {s : Nat} (hs : s < 2 ^ m) (hb : NB m B s) : rk m B s = cnt m s := by
 rcases Nat.decEq (rk m B s) (cnt m s) with c | c
 ·obtain ⟨C, c1, c2, c3⟩ := h.dep_circ _ s (Nat.le_refl _) hs c
  exact absurd ((inc_dif _ _).trans c3) (hb C c1 c2)
 ·exact c
/-- The least element of a flat: with it or without it. -/
theorem Mat.NB_turn {G s : Nat} (hG : G < 2 ^ m) (hf : Flat m B G) (h0 : G ≠ 0) (hs : Inc s G) (hb : NB m B (dif s (2 ^ lo1 G))) : NB m B (s ||| 2 ^ lo1 G) := by
 have h256 := pow_le8 h.m8
 have hl := low_spec (show G < 256 by omega) h0
 intro C c1 c2 c3
 have cl := h.circ_low c1 c2
 have hm := bit_lt c1 cl.bit
 have hin : Inc (dif C (2 ^ lo1 C)) G := c3.trans (inc_or hs (inc_pow hl.bit))
 by_cases he : (dif C (2 ^ lo1 C)).testBit (lo1 G) = true
 ·-- the least of the circuit lies in the flat too
  rw [testBit_dif, testBit_pow, Bool.and_eq_true, Bool.not_eq_true', decide_eq_false_iff_not] at he
  have hlt : lo1 C < lo1 G := by
   rcases Nat.lt_trichotomy (lo1 C) (lo1 G) with q | q | q
   ·exact q
   ·exact absurd q he.2
   ·have := cl.least _ q; rw [he.1] at this; cases this
  have hno := hl.least _ hlt
  have r1 : rk m B (dif C (2 ^ lo1 C) ||| 2 ^ lo1 C) = rk m B (dif C (2 ^ lo1 C)) := by
   rw [dif_or cl.bit]
   have e1 := c2.1
   have e2 := c2.2 _ hm cl.bit
   have e3 := cnt_dif c1 cl.bit
   omega
  exact hf _ hm hno (h.rk_stay hin r1)
 ·refine hb C c1 c2 fun i hi => ?_
  have := c3 i hi
  rw [Nat.testBit_or, testBit_pow, Bool.or_eq_true, decide_eq_true_eq] at this
  have hne : lo1 G ≠ i := fun e => he (e ▸ hi)
  rcases this with q | q
  ·rw [testBit_dif, testBit_pow, q]; simp [hne]
  ·exact absurd q hne
theorem Mat.NB_sum {G : Nat} (hG : G < 2 ^ m) (hf : Flat m B G) (h00 : Flat m B 0) : sumN (2 ^ m) (fun s => if Inc s G then (if NB m B s then sg (cnt m s) else 0) else 0) = if G = 0 then 1 else 0 := by
 have h256 := pow_le8 h.m8
 have hpos : 0 < 2 ^ m := Nat.pow_pos (by omega)
 rcases Nat.decEq G 0 with c | c
 ·rw [if_neg c]
  have hl := low_spec (show G < 256 by omega) c
  have hm := bit_lt hG hl.bit
  refine sumN_turned hm fun s hs => ?_
  have hbit : ∀ i, (s ^^^ 2 ^ lo1 G).testBit i = (s.testBit i ^^ decide (lo1 G = i)) := fun i => by rw [Nat.testBit_xor, testBit_pow]
  have inc_iff : Inc (s ^^^ 2 ^ lo1 G) G ↔ Inc s G := by
   constructor
   ·intro k i hi
    by_cases e : lo1 G = i
    ·subst e; exact hl.bit
    ·exact k i (by rw [hbit, hi]; simp [e])
   ·intro k i hi
    by_cases e : lo1 G = i
    ·subst e; exact hl.bit
    ·rw [hbit] at hi; exact k i (by simpa [e] using hi)
  by_cases q : Inc s G
  ·rw [if_pos (inc_iff.2 q), if_pos q]
   cases hb : s.testBit (lo1 G) with
   | true =>
    have e1 : s ^^^ 2 ^ lo1 G = dif s (2 ^ lo1 G) := by
     apply Nat.eq_of_testBit_eq; intro i
     rw [hbit, testBit_dif, testBit_pow]
     by_cases e : lo1 G = i
     ·subst e; rw [hb]; simp
     ·simp [e]
    have e2 : dif s (2 ^ lo1 G) ||| 2 ^ lo1 G = s := dif_or hb
    have e3 := cnt_dif hs hb
    have key : NB m B (dif s (2 ^ lo1 G)) ↔ NB m B s := by
     constructor
     ·intro k
      have := h.NB_turn hG hf c q k
      have e4 : s ||| 2 ^ lo1 G = s := by rw [Nat.or_comm, or_eq_iff]; exact inc_pow hb
      rwa [e4] at this
     ·exact h.NB_mono (inc_dif _ _)
    rw [e1]
    by_cases k : NB m B s
    ·rw [if_pos (key.2 k), if_pos k, e3, sg_succ]; omega
    ·rw [if_neg (fun x => k (key.1 x)), if_neg k]; rfl
   | false =>
    have e1 : s ^^^ 2 ^ lo1 G = s ||| 2 ^ lo1 G := by
     apply Nat.eq_of_testBit_eq; intro i
     rw [hbit, Nat.testBit_or, testBit_pow]
     by_cases e : lo1 G = i
     ·subst e; rw [hb]; simp
     ·simp [e]
    have e2 : dif s (2 ^ lo1 G) = s := by
     apply Nat.eq_of_testBit_eq; intro i
     rw [testBit_dif, testBit_pow]
     by_cases e : lo1 G = i
     ·subst e; rw [hb]; rfl
     ·simp [e]
    have e3 := cnt_add hm hb
    have key : NB m B (s ||| 2 ^ lo1 G) ↔ NB m B s := by
     constructor
     ·exact h.NB_mono (inc_or_l _ _)
     ·intro k; exact h.NB_turn hG hf c q (by rw [e2]; exact k)
    rw [e1]
    by_cases k : NB m B s
    ·rw [if_pos (key.2 k), if_pos k, e3, sg_succ]
    ·rw [if_neg (fun x => k (key.1 x)), if_neg k]; rfl
  ·rw [if_neg (fun x => q (inc_iff.1 x)), if_neg q]; rfl
 ·subst c
  rw [if_pos rfl]
  have nb0 : NB m B 0 := fun C c1 c2 c3 => by
   have cl := h.circ_low c1 c2
   have hm := bit_lt c1 cl.bit
   have e0 : dif C (2 ^ lo1 C) = 0 := Inc.antisymm c3 (inc_zero _)
   have e2 := c2.1
   have e3 := cnt_dif c1 cl.bit
   rw [e0, cnt_zero] at e3
   have e4 : C = 2 ^ lo1 C := by
    have := dif_or cl.bit
    rw [e0, Nat.zero_or] at this
    exact this.symm
   have hz := h00 _ hm (by simp)
   rw [Nat.zero_or, h.rk_zero, ← e4] at hz
   omega
  have e : ∀ s, s < 2 ^ m → (if Inc s 0 then (if NB m B s then sg (cnt m s) else 0) else 0) = if s = 0 then (1 : Int) else 0 := fun s hs => by
   by_cases q : s = 0
   ·subst q; rw [if_pos (Inc.refl 0), if_pos nb0, if_pos rfl, cnt_zero]; rfl
   ·rw [if_neg q, if_neg fun k => q (Inc.antisymm k (inc_zero _))]
  rw [sumN_congr e, sumN_single _ _ _ hpos]
omit h in
theorem isCl_dec (m : Nat) (B : List Nat) (s c : Nat) : (c < 2 ^ m ∧ ∀ i, i < m → (c.testBit i = true ↔ s.testBit i = true ∨ rk m B (s ||| 2 ^ i) = rk m B s)) ↔ IsCl m B s c := Iff.rfl
end
instance (m : Nat) (B : List Nat) (s c : Nat) : Decidable (IsCl m B s c) := decidable_of_iff _ (isCl_dec m B s c)
/-- What the sets without broken circuits come to, whose closure is the i-th flat. -/
def nuF (m : Nat) (B : List Nat) (i : Nat) : Int := sumN (2 ^ m) fun s => if NB m B s ∧ IsCl m B s ((flats m B).getD i 0) then sg (cnt m s) else 0
section
variable {m : Nat} {B : List Nat} (h : Mat m B)
include h
theorem Mat.cl_idx {s : Nat} (hs : s < 2 ^ m) : ∃ j, j < (flats m B).length ∧ IsCl m B s ((flats m B).getD j 0) ∧ ∀ i, i < (flats m B).length → IsCl m B s ((flats m B).getD i 0) → i = j := by
 have hF : Fam m (flats m B) := filter_fam h.m8 _
 obtain ⟨c, hc⟩ := h.cl_exists hs
 obtain ⟨j, hj, e⟩ := mem_getD.1 (mem_flats.2 ⟨hc.1, h.cl_flat hs hc⟩)
 refine ⟨j, hj, by rw [e]; exact hc, fun i hi hci => ?_⟩
 have e2 : (flats m B).getD i 0 = (flats m B).getD j 0 := set_ext hci.1 (by rw [e]; exact hc.1) fun k hk => by
  rw [e, Bool.eq_iff_iff, hci.2 k hk, hc.2 k hk]
 exact Nat.le_antisymm (hF.idx hi hj (by omega)) (hF.idx hj hi (by omega))
theorem Mat.cl_sum {s : Nat} (hs : s < 2 ^ m) (g : Nat → Int) {j : Nat} (hj : j < (flats m B).length) (hc : IsCl m B s ((flats m B).getD j 0)) (hu : ∀ i, i < (flats m B).length → IsCl m B s ((flats m B).getD i 0) → i = j) :
  sumN (flats m B).length (fun i => if IsCl m B s ((flats m B).getD i 0) then g i else 0) = g j := by
 have _ := h
 have _ := hs
 rw [← sumN_single (flats m B).length j (g j) hj]
 refine sumN_congr fun i hi => ?_
 by_cases e : i = j
 ·subst e; rw [if_pos hc, if_pos rfl]
 ·rw [if_neg fun k => e (hu i hi k), if_neg e]
theorem Mat.cl_inc_iff {s c G : Nat} (hs : s < 2 ^ m) (hc : IsCl m B s c) (hf : Flat m B G) : Inc c G ↔ Inc s G := by
 constructor
 ·exact (h.cl_inc hs hc).trans
 ·intro k i hi
  have hm := bit_lt hc.1 hi
  rcases (hc.2 i hm).1 hi with q | q
  ·exact k i q
  ·cases hb : G.testBit i with
   | true => rfl
   | false => exact absurd (h.rk_stay k q) (hf i hm hb)
theorem Mat.nu_sum (h00 : Flat m B 0) {j : Nat} (hj : j < (flats m B).length) : sumN (flats m B).length (fun i => if Inc ((flats m B).getD i 0) ((flats m B).getD j 0) then nuF m B i else 0) = if (flats m B).getD j 0 = 0 then 1 else 0 := by
 obtain ⟨j1, j2⟩ := mem_flats.1 (mem_getD.2 ⟨j, hj, rfl⟩)
 rw [← h.NB_sum j1 j2 h00]
 have e1 : ∀ i, i < (flats m B).length → (if Inc ((flats m B).getD i 0) ((flats m B).getD j 0) then nuF m B i else 0) = sumN (2 ^ m) (fun s => if IsCl m B s ((flats m B).getD i 0) then (if Inc s ((flats m B).getD j 0) then (if NB m B s then sg (cnt m s) else 0) else 0) else 0) := fun i hi => by
  have key : ∀ s, s < 2 ^ m → (if IsCl m B s ((flats m B).getD i 0) then (if Inc s ((flats m B).getD j 0) then (if NB m B s then sg (cnt m s) else 0) else 0) else 0) = if Inc ((flats m B).getD i 0) ((flats m B).getD j 0) then (if NB m B s ∧ IsCl m B s ((flats m B).getD i 0) then sg (cnt m s) else 0) else 0 := fun s hs => by
   by_cases q : IsCl m B s ((flats m B).getD i 0)
   ·have q2 := h.cl_inc_iff hs q j2
    rw [if_pos q]
    by_cases q3 : Inc s ((flats m B).getD j 0)
    ·rw [if_pos q3, if_pos (q2.2 q3)]
     by_cases q4 : NB m B s
     ·rw [if_pos q4, if_pos ⟨q4, q⟩]
     ·rw [if_neg q4, if_neg fun k => q4 k.1]
    ·rw [if_neg q3, if_neg fun k => q3 (q2.1 k)]
   ·rw [if_neg q]
    split
    ·rw [if_neg fun x => q x.2]
    ·rfl
  rw [sumN_congr key]
  split
  ·rfl
  ·rw [sumN_zero]
 rw [sumN_congr e1, sumN_swap]
 refine sumN_congr fun s hs => ?_
 obtain ⟨k, k1, k2, k3⟩ := h.cl_idx hs
 exact h.cl_sum hs (fun _ => if Inc s ((flats m B).getD j 0) then (if NB m B s then sg (cnt m s) else 0) else 0) k1 k2 k3
theorem Mat.nu_mob (h00 : Flat m B 0) : ∀ (n j : Nat), j ≤ n → j < (flats m B).length → nuF m B j = mob (flats m B) j := by
 have hF : Fam m (flats m B) := filter_fam h.m8 _
 have hpos : 0 < 2 ^ m := Nat.pow_pos (by omega)
 have hz : ∀ j, j < (flats m B).length → ((flats m B).getD j 0 = 0 ↔ j = 0) := fun j hj => by
  obtain ⟨k, k1, k2⟩ := mem_getD.1 (mem_flats.2 ⟨hpos, h00⟩)
  constructor
  ·intro e
   rcases Nat.eq_zero_or_pos j with c | c
   ·exact c
   ·have := hF.rise 0 j c hj; omega
  ·rintro rfl
   rcases Nat.eq_zero_or_pos k with c | c
   ·subst c; exact k2
   ·have := hF.rise 0 k c k1; omega
 intro n
 induction n with
 | zero =>
  intro j hj hl
  exact one j hl (fun i hi => absurd hi (by omega)) hF hz
 | succ n ih =>
  intro j hj hl
  exact one j hl (fun i hi => ih i (by omega) (by omega)) hF hz
where
 one (j : Nat) (hl : j < (flats m B).length) (ih : ∀ i, i < j → nuF m B i = mob (flats m B) i) (hF : Fam m (flats m B)) (hz : ∀ j, j < (flats m B).length → ((flats m B).getD j 0 = 0 ↔ j = 0)) : nuF m B j = mob (flats m B) j := by
  have h1 := h.nu_sum h00 hl
  have h2 := hF.weisner hl
  have e : ∀ i, i < (flats m B).length → (if Inc ((flats m B).getD i 0) ((flats m B).getD j 0) then nuF m B i else 0) = (if Inc ((flats m B).getD i 0) ((flats m B).getD j 0) then mob (flats m B) i else 0) + if i = j then nuF m B j - mob (flats m B) j else 0 := fun i hi => by
   rcases Nat.lt_trichotomy i j with q | q | q
   ·rw [ih i q, if_neg (show ¬ i = j by omega), Int.add_zero]
   ·subst q; rw [if_pos (Inc.refl _), if_pos (Inc.refl _), if_pos rfl]; omega
   ·have : ¬ Inc ((flats m B).getD i 0) ((flats m B).getD j 0) := fun c => by have := hF.inc_idx hi hl c; omega
    rw [if_neg this, if_neg this, if_neg (show ¬ i = j by omega)]; rfl
  rw [sumN_congr e, sumN_add, sumN_single _ _ _ hl, h2] at h1
  by_cases c : j = 0
  ·rw [if_pos c, if_pos ((hz j hl).2 c)] at h1; omega
  ·rw [if_neg c, if_neg fun k => c ((hz j hl).1 k)] at h1; omega
/-- WHITNEY: a coefficient is a count, with a sign. -/
theorem Mat.whitney (h00 : Flat m B 0) (k : Nat) : sumN (flats m B).length (fun i => if rk m B ((flats m B).getD i 0) = k then mob (flats m B) i else 0) = sg k * sumN (2 ^ m) (fun s => if NB m B s ∧ cnt m s = k then 1 else 0) := by
 have e0 : ∀ i, i < (flats m B).length → (if rk m B ((flats m B).getD i 0) = k then mob (flats m B) i else 0) = sumN (2 ^ m) (fun s => if IsCl m B s ((flats m B).getD i 0) then (if NB m B s ∧ cnt m s = k then sg k else 0) else 0) := fun i hi => by
  rw [← h.nu_mob h00 i i (Nat.le_refl _) hi]
  have key : ∀ s, s < 2 ^ m → (if IsCl m B s ((flats m B).getD i 0) then (if NB m B s ∧ cnt m s = k then sg k else 0) else 0) = if rk m B ((flats m B).getD i 0) = k then (if NB m B s ∧ IsCl m B s ((flats m B).getD i 0) then sg (cnt m s) else 0) else 0 := fun s hs => by
   by_cases q : IsCl m B s ((flats m B).getD i 0)
   ·rw [if_pos q]
    by_cases q4 : NB m B s
    ·have r1 := h.cl_rk hs q
     have r2 := h.NB_ind hs q4
     by_cases q5 : cnt m s = k
     ·rw [if_pos ⟨q4, q5⟩, if_pos (by omega), if_pos ⟨q4, q⟩, q5]
     ·rw [if_neg fun x => q5 x.2, if_neg (by omega)]
    ·rw [if_neg fun x => q4 x.1]
     split
     ·rw [if_neg fun x => q4 x.1]
     ·rfl
   ·rw [if_neg q]
    split
    ·rw [if_neg fun x => q x.2]
    ·rfl
  rw [sumN_congr key]
  split
  ·rfl
  ·rw [sumN_zero]
 rw [sumN_congr e0, sumN_swap, ← sumN_mul]
 refine sumN_congr fun s hs => ?_
 obtain ⟨j, k1, k2, k3⟩ := h.cl_idx hs
 rw [h.cl_sum hs (fun _ => if NB m B s ∧ cnt m s = k then sg k else 0) k1 k2 k3]
 split
 ·rw [Int.mul_one]
 ·rw [Int.mul_zero]
end
theorem cs_take (L : List Nat) (k : Nat) : (cs L).take k = cs (L.take k) := by simp [cs, List.map_take]
theorem take_getD (L : List Nat) {j k : Nat} (h : j < k) : (L.take k).getD j 0 = L.getD j 0 := by
 simp only [List.getD_eq_getElem?_getD, List.getElem?_take, if_pos h]
/-- The numbers up to k are there, x at k, nothing behind. -/
structure MB (F : List Nat) (k : Nat) (x : Int) (out : List Int) : Prop where
 len : out.length = F.length
 lo : ∀ i, i < k → out.getD i 0 = mob F i
 at_ : k < F.length → out.getD k 0 = x
 hi : ∀ i, k < i → i < F.length → out.getD i 0 = 0
theorem MB.start (F : List Nat) : MB F 0 0 (List.replicate F.length 0) := by
 have get : ∀ i, (List.replicate F.length (0 : Int)).getD i 0 = 0 := fun i => by
  rw [List.getD_eq_getElem?_getD, List.getElem?_replicate]; split <;> rfl
 exact ⟨by simp, fun i hi => by omega, fun _ => get _, fun i _ _ => get _⟩
theorem MB.set {F : List Nat} {k : Nat} {x : Int} {out : List Int} (h : MB F k x out) (hk : k < F.length) (y : Int) : MB F k y (out.set k y) := by
 have hk' : k < out.length := by rw [h.len]; exact hk
 refine ⟨by simp [h.len], fun i hi => ?_, fun _ => ?_, fun i hi hn => ?_⟩
 ·rw [set_getD _ hk', if_neg (by omega)]; exact h.lo i hi
 ·rw [set_getD _ hk', if_pos rfl]
 ·rw [set_getD _ hk', if_neg (by omega)]; exact h.hi i hi hn
theorem MB.next {F : List Nat} {k : Nat} {out : List Int} (h : MB F k (mob F k) out) (hk : k < F.length) : MB F (k + 1) 0 out :=
 ⟨h.len, fun i hi => by
  rcases Nat.lt_succ_iff_lt_or_eq.1 hi with c | rfl
  ·exact h.lo i c
  ·exact h.at_ hk, fun hk1 => h.hi _ (by omega) hk1, fun i hi hn => h.hi i (by omega) hn⟩
theorem MB.done {F : List Nat} {x : Int} {out : List Int} (h : MB F F.length x out) : out = mobL F F.length := by
 refine list_ext_getD (by rw [h.len, mobL_len]) fun i hi => ?_
 rw [h.len] at hi
 rw [h.lo i hi, mobL_get F hi]
section
variable {m : Nat} {F : List Nat} (hF : Fam m F) (hsub : F.Sublist (List.range (2 ^ m)))
include hF hsub
theorem mobius_ok (l0 : Int) (l3 : List Int) : flats_lattice_mobius l0 (cs F) l3 = some (mobL F F.length) := by
 refine Gets.eq ?_
 have hlen := hF.len
 unfold flats_lattice_mobius
 simp only [cs_len, toNat_nat]
 refine gChk (by omega) (gBind (R := fun o => o = mobL F F.length) (gFor F.length (fun k (x : List Int × Int) => x.2 = (k : Int) ∧ MB F k 0 x.1) (Nat.zero_le _) ⟨rfl, MB.start F⟩ ?_) fun o ho => gSome ho)
 rintro k ⟨out, _⟩ hk ⟨rfl, hmb⟩
 simp only at hmb ⊢
 have hol := hmb.len
 refine gIte (fun h1 => gChk (by omega) ?_) fun h1 => gSome (by have e : k = F.length := (by omega); subst e; exact hmb.done)
 have hk' : k < F.length := by omega
 refine gIte (fun h2 => gChk (by omega) (gSome ⟨hk', by simp, ?_⟩)) fun h2 => gChk (by omega) ?_
 ·have h0 : k = 0 := by omega
  subst h0
  exact MB.next (by rw [show mob F 0 = 1 by rw [mob_eq]; rfl]; exact hmb.set hk' 1) hk'
 ·simp only [toNat_nat, cs_take, cs_len, cs_get]
  have htl : (F.take k).length = k := by rw [List.length_take]; omega
  rw [htl]
  have hk0 : k ≠ 0 := by omega
  refine gBind (R := fun o => MB F k (mob F k) o) (gFor k (fun j (x : List Int × Int) => x.2 = (j : Int) ∧ MB F k (- sumN j (fun i => if Inc (F.getD i 0) (F.getD k 0) then mob F i else 0)) x.1) (Nat.zero_le _) ⟨rfl, by simpa [sumN] using hmb⟩ ?_) fun o ho => gSome ⟨hk', by simp, ho.next hk'⟩
  rintro j ⟨o2, _⟩ hj ⟨rfl, hm2⟩
  simp only at hm2 ⊢
  have ho2 := hm2.len
  refine gIte (fun h3 => gChk (by omega) ?_) fun h3 => gSome ?_
  ·have hj' : j < k := by omega
   simp only [toNat_nat, take_getD F hj', and_nat]
   have b1 := hF.part_small hsub (F.getD k 0) (i := j) (by omega)
   have b2 := hF.mob_small hsub (i := j) (by omega)
   have e1 := hm2.at_ hk'
   have e2 := hm2.lo j hj'
   refine gIte (fun h4 => gChk (by omega) (gSome ⟨hj', by simp, ?_⟩)) fun h4 => gSome ⟨hj', by simp, ?_⟩
   ·have hin : Inc (F.getD j 0) (F.getD k 0) := (sub_iff_and _ _).1 (by omega)
    show MB F k _ (o2.set k _)
    rw [e1, e2]
    simp only [sumN, if_pos hin]
    rw [show -(sumN j (fun i => if Inc (F.getD i 0) (F.getD k 0) then mob F i else 0) + mob F j) = -sumN j (fun i => if Inc (F.getD i 0) (F.getD k 0) then mob F i else 0) - mob F j by omega]
    exact hm2.set hk' _
   ·have hin : ¬ Inc (F.getD j 0) (F.getD k 0) := fun c => h4 (by rw [(sub_iff_and _ _).2 c])
    simp only [sumN, if_neg hin, Int.add_zero]
    exact hm2
  ·have : j = k := by omega
   subst this
   rw [mob_eq, if_neg hk0]; exact hm2
end
theorem flats_of_ok {m : Nat} {B : List Nat} (h : Mat m B) : flats_of m (cs B) = some ((m : Int), cs (flats m B), cs (rkL m B), 0) := by
 unfold flats_of
 rw [Flats_ok h (by have := h.len; omega), Option.bind_some, if_neg (by simp), axioms_Ranks_ok h]; rfl
theorem flats_of_bad {n : Int} {l : List Int} {c : Int} (h : axioms_Check n l = some c) (h0 : c ≠ 0) : flats_of n l = some (0, [], [], c) := by
 unfold flats_of
 rw [Flats_bad h h0, Option.bind_some, if_pos h0]
def chr (m : Nat) (B : List Nat) : List Int :=
 if (flats m B).getD 0 0 = 0 then (List.range (rk m B (2 ^ m - 1) + 1)).map fun j => sumN (flats m B).length fun i => if rk m B (2 ^ m - 1) - rk m B ((flats m B).getD i 0) = j then mob (flats m B) i else 0
 else List.replicate (rk m B (2 ^ m - 1) + 1) 0
theorem chr_len (m : Nat) (B : List Nat) : (chr m B).length = rk m B (2 ^ m - 1) + 1 := by
 unfold chr; split <;> simp
theorem rank_ok {m : Nat} (B : List Nat) (h8 : m ≤ 8) (l0 : Int) (l2 : List Int) : flats_lattice_rank l0 l2 (cs (rkL m B)) = some ((rk m B (2 ^ m - 1) : Nat) : Int) := by
 have h256 := pow_le8 h8
 have hpos : 0 < 2 ^ m := Nat.pow_pos (by omega)
 unfold flats_lattice_rank
 simp only [cs_len, rkL_len]
 have e1 : (((2 ^ m : Nat) : Int) - 1).toNat = 2 ^ m - 1 := by omega
 rw [chk_pos (by omega), e1, cs_get, rkL_get m B (by omega)]
section
variable {m : Nat} {B : List Nat} (h : Mat m B)
include h
theorem Mat.flats_ne : 0 < (flats m B).length := by
 have hpos : 0 < 2 ^ m := Nat.pow_pos (by omega)
 have : 2 ^ m - 1 ∈ flats m B := mem_flats.2 ⟨by omega, fun i hi hb => by
  rw [Nat.testBit_two_pow_sub_one] at hb; simp [hi] at hb⟩
 have _ := h
 exact List.length_pos_of_mem this
theorem Mat.flat0 : (flats m B).getD 0 0 = 0 ↔ Flat m B 0 := by
 have hF : Fam m (flats m B) := filter_fam h.m8 _
 have hpos : 0 < 2 ^ m := Nat.pow_pos (by omega)
 constructor
 ·intro e
  have := (mem_flats.1 (mem_getD.2 ⟨0, h.flats_ne, rfl⟩)).2
  rwa [e] at this
 ·intro hz
  obtain ⟨k, k1, k2⟩ := mem_getD.1 (mem_flats.2 ⟨hpos, hz⟩)
  rcases Nat.eq_zero_or_pos k with c | c
  ·subst c; exact k2
  ·have := hF.rise 0 k c k1; omega
theorem Mat.rk_full {s : Nat} (hs : s < 2 ^ m) : rk m B s ≤ rk m B (2 ^ m - 1) := h.rk_mono fun i hi => by
 rw [Nat.testBit_two_pow_sub_one]; simpa using bit_lt hs hi
theorem Mat.Char_ok : flats_Characteristic m (cs B) = some (chr m B, 0) := by
 have h8 := h.m8
 have hF : Fam m (flats m B) := filter_fam h8 _
 have hsub : (flats m B).Sublist (List.range (2 ^ m)) := List.filter_sublist
 have hlen := hF.len
 have hne := h.flats_ne
 have hR := h.rk_size (2 ^ m - 1)
 have hR8 := cnt_le m (2 ^ m - 1)
 refine Gets.eq ?_
 unfold flats_Characteristic
 refine gBindE (flats_of_ok h) (gIte (fun q => absurd rfl q) fun _ => ?_)
 refine gBindE (rank_ok B h8 _ _) (gChk (by omega) (gChk (by simp; omega) ?_))
 have eR : (((rk m B (2 ^ m - 1) : Nat) : Int) + 1).toNat = rk m B (2 ^ m - 1) + 1 := by omega
 simp only [cs_get, eR]
 refine gIte (fun q => gSome ?_) fun q => ?_
 ·unfold chr; rw [if_neg (by omega)]
 ·have h0 : (flats m B).getD 0 0 = 0 := by omega
  refine gBindE (mobius_ok hF hsub _ _) ?_
  refine gBind (R := fun o => o = chr m B) (gFor (flats m B).length (fun k (x : List Int × Int) => x.2 = (k : Int) ∧ x.1.length = rk m B (2 ^ m - 1) + 1 ∧ ∀ j, j < rk m B (2 ^ m - 1) + 1 → x.1.getD j 0 = sumN k fun i => if rk m B (2 ^ m - 1) - rk m B ((flats m B).getD i 0) = j then mob (flats m B) i else 0) (Nat.zero_le _) ⟨rfl, by simp, fun j hj => by
   rw [List.getD_eq_getElem?_getD, List.getElem?_replicate]; simp [sumN, hj]⟩ ?_) fun o ho => gSome (by rw [ho])
  rintro k ⟨out, _⟩ hk ⟨rfl, i1, i2⟩
  simp only [mobL_len, cs_len, rkL_len, cs_get, toNat_nat] at i1 i2 ⊢
  refine gIte (fun h1 => gChk (by omega) ?_) fun h1 => gSome ?_
  ·have hk' : k < (flats m B).length := by omega
   obtain ⟨f1, f2⟩ := mem_flats.1 (mem_getD.2 ⟨k, hk', rfl⟩)
   have hrf := h.rk_full f1
   rw [rank_ok B h8]
   simp only [Option.bind_some, rkL_get m B f1]
   have ej : (((rk m B (2 ^ m - 1) : Nat) : Int) - ((rk m B ((flats m B).getD k 0) : Nat) : Int)).toNat = rk m B (2 ^ m - 1) - rk m B ((flats m B).getD k 0) := by omega
   have hj : rk m B (2 ^ m - 1) - rk m B ((flats m B).getD k 0) < rk m B (2 ^ m - 1) + 1 := by omega
   rw [ej, i2 _ hj, mobL_get _ hk']
   have b1 := sumN_abs (n := k) (g := fun i => if rk m B (2 ^ m - 1) - rk m B ((flats m B).getD i 0) = rk m B (2 ^ m - 1) - rk m B ((flats m B).getD k 0) then mob (flats m B) i else 0) (c := 68719476736) fun i hi => by
    have := hF.mob_small hsub (i := i) (by omega)
    split <;> omega
   have b2 := hF.mob_small hsub hk'
   have b3 : (k : Int) * 68719476736 ≤ 256 * 68719476736 := Int.mul_le_mul_of_nonneg_right (by omega) (by omega)
   refine gChk ⟨by omega, by omega, by omega, by omega, by omega⟩ (gSome ⟨hk', by simp, by simp [i1], fun j hj2 => ?_⟩)
   rw [set_getD _ (by omega)]
   simp only [sumN]
   by_cases e : j = rk m B (2 ^ m - 1) - rk m B ((flats m B).getD k 0)
   ·rw [if_pos e, if_pos e.symm, e]
   ·rw [if_neg e, if_neg (Ne.symm e), i2 j hj2, Int.add_zero]
  ·have e : k = (flats m B).length := by omega
   subst e
   refine list_ext_getD (by rw [i1, chr_len]) fun j hj => ?_
   rw [i1] at hj
   rw [i2 j hj]
   unfold chr
   rw [if_pos h0, List.getD_eq_getElem?_getD, List.getElem?_map, List.getElem?_range hj]
   rfl
end
theorem Char_bad {n : Int} {l : List Int} {c : Int} (h : axioms_Check n l = some c) (h0 : c ≠ 0) : flats_Characteristic n l = some ([], c) := by
 unfold flats_Characteristic
 rw [flats_of_bad h h0, Option.bind_some, if_pos h0]
/-- A complex by its facets. -/
structure Cx (m : Nat) (L : List Nat) : Prop extends Fam m L where
 ne : L ≠ []
 anti : ∀ s, s ∈ L → ∀ t, t ∈ L → Inc s t → s = t
def Face (L : List Nat) (s : Nat) : Prop := ∃ f, f ∈ L ∧ Inc s f
instance (L : List Nat) (s : Nat) : Decidable (Face L s) := by unfold Face; infer_instance
def facesL (m : Nat) (L : List Nat) : List Nat := (List.range (2 ^ m)).filter fun s => Face L s
/-- The size of a greatest facet. -/
def dimL (m : Nat) (L : List Nat) : Nat := L.foldl (fun r f => max r (cnt m f)) 0
theorem cnt_le_dim {m : Nat} {L : List Nat} {f : Nat} (h : f ∈ L) : cnt m f ≤ dimL m L := (foldl_max_le (f := cnt m)).1 (Nat.le_refl _) |>.2 f h
theorem dim_le (m : Nat) (L : List Nat) : dimL m L ≤ m := (foldl_max_le (f := cnt m)).2 ⟨by omega, fun f _ => cnt_le m f⟩
def fN (m : Nat) (L : List Nat) (k : Nat) : Nat := (facesL m L).countP fun s => decide (cnt m s = k)
def bin : Nat → Nat → Nat
 | _, 0 => 1
 | 0, _ + 1 => 0
 | n + 1, k + 1 => bin n k + bin n (k + 1)
def hT (m : Nat) (L : List Nat) (k i : Nat) : Int := sg (k - i) * ((fN m L i : Nat) * (bin (dimL m L - i) (k - i) : Nat))
def hN (m : Nat) (L : List Nat) (k : Nat) : Int := sumN (k + 1) (hT m L k)
theorem Cx.f_zero {m : Nat} {L : List Nat} (h : Cx m L) : fN m L 0 = 1 := by
 have hpos : 0 < 2 ^ m := Nat.pow_pos (by omega)
 have key : ∀ s, s < 2 ^ m → cnt m s = 0 → s = 0 := fun s hs hc => by
  rcases Nat.decEq s 0 with c | c
  ·obtain ⟨i, hi⟩ := exists_bit c
   have := cnt_pos hs hi; omega
  ·exact c
 have hf : Face L 0 := by
  cases hL : L with
  | nil => exact absurd hL h.ne
  | cons f r => exact ⟨f, by simp, inc_zero f⟩
 have e : ((fN m L 0 : Nat) : Int) = 1 := by
  unfold fN facesL
  rw [List.countP_filter, ← sumN_countP', sumN_congr (h := fun s => if s = 0 then (1 : Int) else 0) fun s hs => ?_, sumN_single _ _ _ hpos]
  by_cases c : s = 0
  ·subst c; rw [if_pos (by simp [cnt_zero, hf]), if_pos rfl]
  ·rw [if_neg (by simp only [Bool.and_eq_true, decide_eq_true_eq]; exact fun q => c (key s hs q.1)), if_neg c]
 omega
where
 sumN_countP' (p : Nat → Bool) : ∀ n, sumN n (fun s => if p s = true then 1 else 0) = (((List.range n).countP p : Nat) : Int)
 | 0 => rfl
 | n + 1 => by
  simp only [sumN]
  rw [sumN_countP' p n, List.range_succ, List.countP_append, List.countP_cons, List.countP_nil]
  cases p n <;> simp
theorem Fam.nodup {m : Nat} {L : List Nat} (h : Fam m L) : L.Nodup := by
 unfold List.Nodup
 rw [List.pairwise_iff_getElem]
 intro i j hi hj hij
 have := h.rise i j hij hj
 simp [List.getD_eq_getElem?_getD, List.getElem?_eq_getElem hi, List.getElem?_eq_getElem hj] at this
 omega
/-- A shelling: each facet meets the former ones in sets that lie in such as lack one element. -/
def Shell (m : Nat) (O : List Nat) : Prop := ∀ i, i < O.length → ∀ j, j < i → ∃ k, k < i ∧ cnt m (O.getD i 0 &&& O.getD k 0) + 1 = cnt m (O.getD i 0) ∧ Inc (O.getD i 0 &&& O.getD j 0) (O.getD k 0)
/-- The restriction of a facet. -/
def IsRes (O : List Nat) (i R : Nat) : Prop := ∀ x, R.testBit x = true ↔ (O.getD i 0).testBit x = true ∧ ∃ j, j < i ∧ O.getD j 0 &&& O.getD i 0 = dif (O.getD i 0) (2 ^ x)
theorem IsRes.inc {O : List Nat} {i R : Nat} (h : IsRes O i R) : Inc R (O.getD i 0) := fun x hx => ((h x).1 hx).1
theorem shell_first {O : List Nat} {i s R : Nat} (hR : IsRes O i R) (hs : Inc s (O.getD i 0)) (hn : ∀ j, j < i → ¬ Inc s (O.getD j 0)) : Inc R s := by
 intro x hx
 obtain ⟨h1, j, hj, he⟩ := (hR x).1 hx
 cases q : s.testBit x
 ·exfalso
  refine hn j hj fun y hy => ?_
  have h2 := hs y hy
  have h3 : (dif (O.getD i 0) (2 ^ x)).testBit y = true := by
   rw [testBit_dif, h2, testBit_pow]
   by_cases e : x = y
   ·subst e; rw [q] at hy; cases hy
   ·simp [e]
  rw [← he, Nat.testBit_and, Bool.and_eq_true] at h3
  exact h3.1
 ·rfl
theorem shell_only {m : Nat} {O : List Nat} {i j s R : Nat} (hlt : O.getD i 0 < 2 ^ m) (h : Shell m O) (hi : i < O.length) (hj : j < i) (hR : IsRes O i R) (hs : Inc s (O.getD i 0)) (hr : Inc R s) : ¬ Inc s (O.getD j 0) := by
 intro hsj
 obtain ⟨k, hk, hc, hin⟩ := h i hi j hj
 have hnot : ¬ Inc (O.getD i 0) (O.getD k 0) := fun q => by
  have := (sub_iff_and _ _).2 q
  rw [this] at hc; omega
 obtain ⟨x, x1, x2⟩ := not_inc hnot
 have hx := cnt_dif hlt x1
 have hI : Inc (O.getD i 0 &&& O.getD k 0) (dif (O.getD i 0) (2 ^ x)) := fun y hy => by
  rw [Nat.testBit_and, Bool.and_eq_true] at hy
  rw [testBit_dif, hy.1, testBit_pow]
  by_cases e : x = y
  ·subst e; rw [x2] at hy; cases hy.2
  ·simp [e]
 have he := inc_eq_of_cnt hI (dif_lt hlt) (by omega)
 have hxR : R.testBit x = true := (hR x).2 ⟨x1, k, hk, by rw [Nat.and_comm]; exact he⟩
 have hxs := hr x hxR
 have := hin x (by rw [Nat.testBit_and, x1, hsj x hxs]; rfl)
 rw [x2] at this; cases this
theorem least_of {P : Nat → Prop} : ∀ n, P n → ∃ k, k ≤ n ∧ P k ∧ ∀ j, j < k → ¬ P j := by
 intro n
 induction n using Nat.strongRecOn with
 | ind n ih =>
  intro hn
  rcases Classical.em (∃ j, j < n ∧ P j) with ⟨j, h1, h2⟩ | q
  ·obtain ⟨k, k1, k2, k3⟩ := ih j h1 h2
   exact ⟨k, by omega, k2, k3⟩
  ·exact ⟨n, Nat.le_refl _, hn, fun j hj hp => q ⟨j, hj, hp⟩⟩
def betB : Nat → Nat → Nat → Nat → Bool
 | 0, _, _, _ => true
 | m + 1, R, F, s => betB m R F s && (!R.testBit m || s.testBit m) && (!s.testBit m || F.testBit m)
theorem betB_iff {R F s : Nat} : ∀ m, betB m R F s = true ↔ ∀ x, x < m → (R.testBit x = true → s.testBit x = true) ∧ (s.testBit x = true → F.testBit x = true)
 | 0 => by simp [betB]
 | m + 1 => by
  simp only [betB, Bool.and_eq_true, Bool.or_eq_true, Bool.not_eq_true']
  rw [betB_iff m]
  constructor
  ·rintro ⟨⟨h1, h2⟩, h3⟩ x hx
   rcases Nat.lt_succ_iff_lt_or_eq.1 hx with c | rfl
   ·exact h1 x c
   ·exact ⟨fun q => by rcases h2 with h2 | h2 <;> simp_all, fun q => by rcases h3 with h3 | h3 <;> simp_all⟩
  ·intro h
   refine ⟨⟨fun x hx => h x (by omega), ?_⟩, ?_⟩
   ·cases q : R.testBit m
    ·exact .inl rfl
    ·exact .inr ((h m (by omega)).1 q)
   ·cases q : s.testBit m
    ·exact .inl rfl
    ·exact .inr ((h m (by omega)).2 q)
theorem betB_add {m R F s : Nat} (hs : s < 2 ^ m) : betB m R F (2 ^ m + s) = betB m R F s := by
 rw [Bool.eq_iff_iff, betB_iff, betB_iff]
 have e : ∀ x, x < m → (2 ^ m + s).testBit x = s.testBit x := fun x hx => by
  rw [add_bit hs]
  have : decide (x = m) = false := by simp; omega
  rw [this, Bool.false_or]
 constructor
 ·intro h x hx; have := h x hx; rw [e x hx] at this; exact this
 ·intro h x hx; rw [e x hx]; exact h x hx
theorem cnt_addp {m s : Nat} (hs : s < 2 ^ m) : cnt m (2 ^ m + s) = cnt m s := cnt_congr fun x hx => by
 rw [add_bit hs]
 have : decide (x = m) = false := by simp; omega
 rw [this, Bool.false_or]
def cB (m R F i : Nat) : Int := sumN (2 ^ m) fun s => if betB m R F s = true ∧ cnt m s = i then 1 else 0
theorem cB_succ (m R F i : Nat) : cB (m + 1) R F i = (if R.testBit m = true then 0 else cB m R F i) + (if F.testBit m = true then (if i = 0 then 0 else cB m R F (i - 1)) else 0) := by
 unfold cB
 rw [sumN_two]
 congr 1
 ·by_cases hR : R.testBit m = true
  ·rw [if_pos hR, sumN_congr (h := fun _ => (0 : Int)) fun s hs => ?_, sumN_zero]
   rw [if_neg]
   simp only [betB, cnt, bit_ge hs (Nat.le_refl m), hR]
   simp
  ·rw [if_neg hR]
   refine sumN_congr fun s hs => ?_
   simp only [betB, cnt, bit_ge hs (Nat.le_refl m), hR]
   simp
 ·by_cases hF : F.testBit m = true
  ·rw [if_pos hF]
   have eb : ∀ s, s < 2 ^ m → (2 ^ m + s).testBit m = true := fun s hs => by rw [add_bit hs]; simp
   by_cases h0 : i = 0
   ·rw [if_pos h0, sumN_congr (h := fun _ => (0 : Int)) fun s hs => ?_, sumN_zero]
    rw [if_neg]
    simp only [cnt, eb s hs, h0]
    simp
   ·rw [if_neg h0]
    refine sumN_congr fun s hs => ?_
    simp only [betB, cnt, betB_add hs, cnt_addp hs, eb s hs, hF]
    simp only [Bool.not_true, Bool.or_true, Bool.and_true, if_pos]
    by_cases q : betB m R F s = true ∧ cnt m s = i - 1
    ·rw [if_pos q, if_pos ⟨q.1, by omega⟩]
    ·rw [if_neg q, if_neg fun q2 => q ⟨q2.1, by have := q2.2; omega⟩]
  ·rw [if_neg hF, sumN_congr (h := fun _ => (0 : Int)) fun s hs => ?_, sumN_zero]
   have eb : (2 ^ m + s).testBit m = true := by rw [add_bit hs]; simp
   rw [if_neg]
   simp only [betB, eb, hF]
   simp
def gB (a b i : Nat) : Nat := if a ≤ i then bin (b - a) (i - a) else 0
theorem bin_zero (n : Nat) : bin n 0 = 1 := by cases n <;> rfl
theorem cB_val : ∀ (m R F i : Nat), (∀ x, x < m → R.testBit x = true → F.testBit x = true) → cB m R F i = ((gB (cnt m R) (cnt m F) i : Nat) : Int)
 | 0, R, F, i, _ => by
  unfold cB gB
  simp only [cnt, Nat.pow_zero, sumN, betB]
  cases i <;> simp [bin]
 | m + 1, R, F, i, h => by
  have ih := fun i => cB_val m R F i fun x hx => h x (by omega)
  have hle : cnt m R ≤ cnt m F := cnt_mono fun x hx q => h x (by omega) q
  rw [cB_succ, ih, ih]
  simp only [cnt]
  by_cases hR : R.testBit m = true
  ·have hF := h m (by omega) hR
   rw [if_pos hR, if_pos hF, if_pos hR, if_pos hF]
   unfold gB
   by_cases h0 : i = 0
   ·rw [if_pos h0, if_neg (by omega)]; rfl
   ·rw [if_neg h0]
    by_cases c : cnt m R ≤ i - 1
    ·rw [if_pos c, if_pos (by omega), show cnt m F + 1 - (cnt m R + 1) = cnt m F - cnt m R by omega, show i - (cnt m R + 1) = i - 1 - cnt m R by omega]; simp
    ·rw [if_neg c, if_neg (by omega)]; rfl
  ·rw [if_neg hR, if_neg hR]
   by_cases hF : F.testBit m = true
   ·rw [if_pos hF, if_pos hF]
    unfold gB
    by_cases h0 : i = 0
    ·rw [if_pos h0]
     by_cases c : cnt m R ≤ i
     ·rw [if_pos c, if_pos (by omega), show i - cnt m R = 0 by omega, show i - (cnt m R + 0) = 0 by omega, bin_zero, bin_zero]; rfl
     ·rw [if_neg c, if_neg (by omega)]; rfl
    ·rw [if_neg h0]
     by_cases c : cnt m R ≤ i - 1
     ·rw [if_pos c, if_pos (by omega), if_pos (by omega), show cnt m F + 1 - (cnt m R + 0) = (cnt m F - cnt m R) + 1 by omega, show i - (cnt m R + 0) = (i - 1 - cnt m R) + 1 by omega, show i - cnt m R = (i - 1 - cnt m R) + 1 by omega]
      simp only [bin]; omega
     ·rw [if_neg c]
      by_cases c2 : cnt m R ≤ i
      ·rw [if_pos c2, if_pos (by omega), show i - cnt m R = 0 by omega, show i - (cnt m R + 0) = 0 by omega, bin_zero, bin_zero]; rfl
      ·rw [if_neg c2, if_neg (by omega)]; rfl
   ·rw [if_neg hF, if_neg hF]; simp
theorem bin_inv : ∀ d j k : Fin 9, j.val ≤ d.val → k.val ≤ d.val → sumN (k.val + 1) (fun i => sg (k.val - i) * ((gB j.val d.val i : Nat) * (bin (d.val - i) (k.val - i) : Nat))) = if j.val = k.val then 1 else 0 := of_decide_eq_true (by kernel_rfl)
theorem fN_sum (m : Nat) (L : List Nat) (i : Nat) : ((fN m L i : Nat) : Int) = sumN (2 ^ m) (fun s => if cnt m s = i ∧ Face L s then 1 else 0) := by
 unfold fN facesL
 rw [List.countP_filter, ← Cx.f_zero.sumN_countP']
 refine sumN_congr fun s _ => ?_
 by_cases q : cnt m s = i ∧ Face L s
 ·rw [if_pos q, if_pos (by simp [q])]
 ·rw [if_neg q, if_neg (by simpa using fun a b => q ⟨a, b⟩)]
theorem shell_once {m : Nat} {L O : List Nat} (hp : O.Perm L) (hlt : ∀ s, s ∈ L → s < 2 ^ m) (hS : Shell m O) {R : Nat → Nat} (hR : ∀ i, i < O.length → IsRes O i (R i)) {s : Nat} (hf : Face L s) :
  ∃ t0, t0 < O.length ∧ ∀ t, t < O.length → (Inc (R t) s ∧ Inc s (O.getD t 0) ↔ t = t0) := by
 obtain ⟨f, f1, f2⟩ := hf
 obtain ⟨n, n1, rfl⟩ := mem_getD.1 (hp.mem_iff.2 f1)
 obtain ⟨t0, t1, t2, t3⟩ := least_of (P := fun t => Inc s (O.getD t 0)) n f2
 refine ⟨t0, by omega, fun t ht => ⟨fun ⟨h1, h2⟩ => ?_, fun e => ?_⟩⟩
 ·rcases Nat.lt_or_ge t t0 with c | c
  ·exact absurd h2 (t3 t c)
  ·rcases Nat.lt_or_ge t0 t with c2 | c2
   ·exact absurd t2 (shell_only (hlt _ (hp.mem_iff.1 (mem_getD.2 ⟨t, ht, rfl⟩))) hS ht c2 (hR t ht) h2 h1)
   ·omega
 ·subst e
  exact ⟨shell_first (hR t ht) t2 t3, t2⟩
theorem h_shell {m : Nat} {L O : List Nat} (h8 : m ≤ 8) (hlt : ∀ s, s ∈ L → s < 2 ^ m) (hp : O.Perm L) (hpu : ∀ s, s ∈ L → cnt m s = dimL m L) (hS : Shell m O) {R : Nat → Nat} (hR : ∀ i, i < O.length → IsRes O i (R i)) {k : Nat} (hk : k ≤ dimL m L) :
  hN m L k = sumN O.length (fun t => if cnt m (R t) = k then 1 else 0) := by
 have hd := dim_le m L
 have hF : ∀ t, t < O.length → O.getD t 0 ∈ L := fun t ht => hp.mem_iff.1 (mem_getD.2 ⟨t, ht, rfl⟩)
 have hf : ∀ i, ((fN m L i : Nat) : Int) = sumN O.length (fun t => ((gB (cnt m (R t)) (dimL m L) i : Nat) : Int)) := fun i => by
  rw [fN_sum]
  have e1 : ∀ t, t < O.length → ((gB (cnt m (R t)) (dimL m L) i : Nat) : Int) = sumN (2 ^ m) (fun s => if (Inc (R t) s ∧ Inc s (O.getD t 0)) ∧ cnt m s = i then 1 else 0) := fun t ht => by
   have h1 := hF t ht
   rw [← hpu _ h1, ← cB_val m (R t) (O.getD t 0) i fun x _ q => (hR t ht).inc x q]
   refine sumN_congr fun s hs => ?_
   have hRlt : R t < 2 ^ m := (hR t ht).inc.lt (hlt _ h1)
   have key : betB m (R t) (O.getD t 0) s = true ↔ Inc (R t) s ∧ Inc s (O.getD t 0) := by
    rw [betB_iff]
    exact ⟨fun q => ⟨fun x hx => (q x (bit_lt hRlt hx)).1 hx, fun x hx => (q x (bit_lt hs hx)).2 hx⟩, fun q x _ => ⟨q.1 x, q.2 x⟩⟩
   by_cases q : betB m (R t) (O.getD t 0) s = true ∧ cnt m s = i
   ·rw [if_pos q, if_pos ⟨key.1 q.1, q.2⟩]
   ·rw [if_neg q, if_neg fun q2 => q ⟨key.2 q2.1, q2.2⟩]
  rw [sumN_congr e1, sumN_swap]
  refine sumN_congr fun s hs => ?_
  by_cases q : cnt m s = i ∧ Face L s
  ·obtain ⟨t0, t1, t2⟩ := shell_once hp hlt hS hR q.2
   rw [if_pos q, sumN_congr (h := fun t => if t = t0 then (1 : Int) else 0) fun t ht => ?_, sumN_single _ _ _ t1]
   by_cases e : t = t0
   ·rw [if_pos ⟨(t2 t ht).2 e, q.1⟩, if_pos e]
   ·rw [if_neg fun z => e ((t2 t ht).1 z.1), if_neg e]
  ·rw [if_neg q, sumN_congr (h := fun _ => (0 : Int)) fun t ht => ?_, sumN_zero]
   exact if_neg fun z => q ⟨z.2, _, hF t ht, z.1.2⟩
 unfold hN
 have e2 : ∀ i, i < k + 1 → hT m L k i = sumN O.length (fun t => sg (k - i) * ((gB (cnt m (R t)) (dimL m L) i : Nat) * (bin (dimL m L - i) (k - i) : Nat))) := fun i hi => by
  unfold hT
  rw [hf i, sumN_mul]
  congr 1
  rw [Int.mul_comm, ← sumN_mul]
  exact sumN_congr fun t _ => Int.mul_comm _ _
 rw [sumN_congr e2, sumN_swap]
 refine sumN_congr fun t ht => ?_
 have hc : cnt m (R t) ≤ dimL m L := by
  have := cnt_le_of_inc (m := m) (hR t ht).inc
  rw [hpu _ (hF t ht)] at this
  exact this
 exact bin_inv ⟨dimL m L, by omega⟩ ⟨cnt m (R t), by omega⟩ ⟨k, by omega⟩ hc hk
/-- A complex, all of whose facets are of one size, and its facets in an order. -/
structure Shv (m : Nat) (L O : List Nat) : Prop where
 cx : Cx m L
 perm : O.Perm L
 pure : ∀ s, s ∈ L → cnt m s = dimL m L
theorem Shv.lt {m : Nat} {L O : List Nat} (h : Shv m L O) {t : Nat} (ht : t < O.length) : O.getD t 0 ∈ L ∧ O.getD t 0 < 2 ^ m := by
 have := h.perm.mem_iff.1 (mem_getD.2 ⟨t, ht, rfl⟩)
 exact ⟨this, h.cx.lt _ this⟩
theorem lt_topb {x y i : Nat} (hx : x.testBit i = false) (hy : y.testBit i = true) (h : ∀ j, i < j → x.testBit j = y.testBit j) : x < y := by
 have e : x / 2 ^ (i + 1) = y / 2 ^ (i + 1) := Nat.eq_of_testBit_eq fun j => by
  rw [Nat.testBit_div_two_pow, Nat.testBit_div_two_pow]; exact h _ (by omega)
 rw [Nat.pow_succ, ← Nat.div_div_eq_div_mul, ← Nat.div_div_eq_div_mul] at e
 rw [Nat.testBit_eq_decide_div_mod_eq] at hx hy
 simp only [decide_eq_false_iff_not, decide_eq_true_eq] at hx hy
 rcases Nat.lt_or_ge x y with c | c
 ·exact c
 ·have := Nat.div_le_div_right (c := 2 ^ i) c
  omega
def rev8 (a : Nat) : Nat := mkset 8 fun j => a.testBit (7 - j)
def kx (a : Nat) : Nat := 255 - rev8 a
theorem rev8_lt (a : Nat) : rev8 a < 256 := mkset_lt 8 _
theorem rev8_bit {a j : Nat} (hj : j < 8) : (rev8 a).testBit j = a.testBit (7 - j) := by unfold rev8; rw [mkset_bit]; simp [hj]
/-- The first element that is not in both is in the first one. -/
def Lx (a b : Nat) : Prop := ∃ i, a.testBit i = true ∧ b.testBit i = false ∧ ∀ j, j < i → a.testBit j = b.testBit j
theorem Lx.key {a b : Nat} (ha : a < 256) (h : Lx a b) : kx a < kx b := by
 obtain ⟨i, h1, h2, h3⟩ := h
 have hi : i < 8 := bit_lt (m := 8) ha h1
 have hlt : rev8 b < rev8 a := by
  refine lt_topb (i := 7 - i) (by rw [rev8_bit (by omega)]; rw [show 7 - (7 - i) = i by omega]; exact h2) (by rw [rev8_bit (by omega)]; rw [show 7 - (7 - i) = i by omega]; exact h1) fun j hj => ?_
  rcases Nat.lt_or_ge j 8 with c | c
  ·rw [rev8_bit c, rev8_bit c]; exact (h3 (7 - j) (by omega)).symm
  ·rw [bit_ge (m := 8) (rev8_lt a) c, bit_ge (m := 8) (rev8_lt b) c]
 have := rev8_lt a
 have := rev8_lt b
 unfold kx; omega
theorem lx_or {a b : Nat} (hne : a ≠ b) (ha : a < 256) (hb : b < 256) : IsLow (a ^^^ b) (lo1 (a ^^^ b)) ∧ a ^^^ b ≠ 0 := by
 have hz : a ^^^ b ≠ 0 := fun z => hne (Nat.eq_of_testBit_eq fun i => by
  have : (a ^^^ b).testBit i = false := by rw [z]; simp
  rw [Nat.testBit_xor] at this
  cases p : a.testBit i <;> cases q : b.testBit i <;> simp [p, q] at this ⊢)
 exact ⟨low_spec (Nat.xor_lt_two_pow (n := 8) ha hb) hz, hz⟩
theorem kx_inj {a b : Nat} (ha : a < 256) (hb : b < 256) (h : kx a = kx b) : a = b := by
 rcases Nat.decEq a b with c | c
 ·exfalso
  obtain ⟨hlow, hz⟩ := lx_or c ha hb
  have hlt : a ^^^ b < 256 := Nat.xor_lt_two_pow (n := 8) ha hb
  have bx1 : ∀ j, j < lo1 (a ^^^ b) → a.testBit j = b.testBit j := fun j hj => by
   have := hlow.least j hj
   rw [Nat.testBit_xor] at this
   cases p : a.testBit j <;> cases q : b.testBit j <;> simp [p, q] at this ⊢
  have bx2 := hlow.bit
  rw [Nat.testBit_xor] at bx2
  cases p : a.testBit (lo1 (a ^^^ b)) with
  | true =>
   have q : b.testBit (lo1 (a ^^^ b)) = false := by rw [p] at bx2; simpa using bx2
   have := Lx.key ha ⟨_, p, q, bx1⟩
   omega
  | false =>
   have q : b.testBit (lo1 (a ^^^ b)) = true := by rw [p] at bx2; simpa using bx2
   have := Lx.key hb ⟨_, q, p, fun j hj => (bx1 j hj).symm⟩
   omega
 ·exact c
/-- In that order, each once. -/
structure LexO (B O : List Nat) : Prop where
 perm : O.Perm B
 ord : O.Pairwise fun a b => kx a < kx b
theorem LexO.lt {B O : List Nat} (h : LexO B O) {i j : Nat} (hij : i < j) (hj : j < O.length) : kx (O.getD i 0) < kx (O.getD j 0) := by
 have := List.pairwise_iff_getElem.1 h.ord i j (by omega) hj hij
 rw [List.getD_eq_getElem?_getD, List.getD_eq_getElem?_getD, List.getElem?_eq_getElem (by omega), List.getElem?_eq_getElem hj]
 exact this
theorem LexO.idx {B O : List Nat} (h : LexO B O) {i : Nat} (hi : i < O.length) {g : Nat} (hg : g ∈ B) (hk : kx g < kx (O.getD i 0)) : ∃ j, j < i ∧ O.getD j 0 = g := by
 obtain ⟨j, j1, j2⟩ := mem_getD.1 (h.perm.mem_iff.2 hg)
 refine ⟨j, ?_, j2⟩
 rcases Nat.lt_trichotomy j i with c | c | c
 ·exact c
 ·subst c; rw [j2] at hk; omega
 ·have := h.lt c j1
  rw [j2] at this; omega
theorem lx_of_key {a b : Nat} (ha : a < 256) (hb : b < 256) (h : kx a < kx b) : Lx a b := by
 have c : a ≠ b := fun e => by rw [e] at h; omega
 obtain ⟨hlow, hz⟩ := lx_or c ha hb
 have hlt : a ^^^ b < 256 := Nat.xor_lt_two_pow (n := 8) ha hb
 have bx1 : ∀ j, j < lo1 (a ^^^ b) → a.testBit j = b.testBit j := fun j hj => by
  have := hlow.least j hj
  rw [Nat.testBit_xor] at this
  cases p : a.testBit j <;> cases q : b.testBit j <;> simp [p, q] at this ⊢
 have bx2 := hlow.bit
 rw [Nat.testBit_xor] at bx2
 cases p : a.testBit (lo1 (a ^^^ b)) with
 | true =>
  have q : b.testBit (lo1 (a ^^^ b)) = false := by rw [p] at bx2; simpa using bx2
  exact ⟨_, p, q, bx1⟩
 | false =>
  have q : b.testBit (lo1 (a ^^^ b)) = true := by rw [p] at bx2; simpa using bx2
  have := Lx.key hb ⟨_, q, p, fun j hj => (bx1 j hj).symm⟩
  omega
/-- A lesser element instead of a greater one: ahead. -/
theorem lx_swap {f x z : Nat} (hf : f < 256) (hz : z < 8) (hx : f.testBit x = true) (hzf : f.testBit z = false) (h : z < x) : kx (dif f (2 ^ x) ||| 2 ^ z) < kx f := by
 have hne : x ≠ z := by omega
 refine Lx.key (or_lt (n := 8) (dif_lt hf) (pow_lt hz)) ⟨z, by rw [Nat.testBit_or, testBit_pow]; simp, hzf, fun j hj => ?_⟩
 rw [Nat.testBit_or, testBit_dif, testBit_pow, testBit_pow]
 have h1 : ¬ x = j := by omega
 have h2 : ¬ z = j := by omega
 simp [h1, h2]
section
variable {m : Nat} {B : List Nat} (h : Mat m B)
include h
theorem Mat.cx : Cx m B := { h.toFam with
 ne := h.ne
 anti := fun s hs t ht hst => inc_eq_of_cnt hst (h.lt t ht) (by rw [h.eqc s hs t ht]; exact Nat.le_refl _) }
theorem Mat.lt256 {s : Nat} (hs : s ∈ B) : s < 256 := Nat.lt_of_lt_of_le (h.lt s hs) (pow_le8 h.m8)
/-- BJOERNER: bases by their elements are a shelling. -/
theorem Mat.lex_shell {O : List Nat} (ho : LexO B O) : Shell m O := by
 intro i hi j hj
 have hf : O.getD i 0 ∈ B := ho.perm.mem_iff.1 (mem_getD.2 ⟨i, hi, rfl⟩)
 have hg : O.getD j 0 ∈ B := ho.perm.mem_iff.1 (mem_getD.2 ⟨j, by omega, rfl⟩)
 have hk := ho.lt hj hi
 generalize hfe : O.getD i 0 = f at *
 generalize hge : O.getD j 0 = g at *
 obtain ⟨x, x1, x2, x3⟩ := lx_of_key (h.lt256 hg) (h.lt256 hf) hk
 -- x comes in, something greater goes out
 obtain ⟨y, y1, y2, y3⟩ : ∃ y, f.testBit y = true ∧ g.testBit y = false ∧ dif f (2 ^ y) ||| 2 ^ x ∈ B := by
  have lf := h.lt f hf
  have lg := h.lt g hg
  have hxm := bit_lt lg x1
  have fr : ∀ X, Inc X f → rk m B X = cnt m X := fun X hX => (h.ind_iff (hX.lt lf)).1 ⟨f, hf, hX⟩
  have hgx : Inc ((f &&& g) ||| 2 ^ x) g := inc_or (inc_and_r _ _) (inc_pow x1)
  have r1 := (h.ind_iff (hgx.lt lg)).1 ⟨g, hg, hgx⟩
  have c1 := cnt_add (m := m) (s := f &&& g) hxm (by rw [Nat.testBit_and, x2]; rfl)
  have r2 := fr (f &&& g) (inc_and_l _ _)
  obtain ⟨y, y1, y2, y3⟩ := h.fund hf (inc_and_l f g) hxm x2 (by omega)
  refine ⟨y, y1, ?_, y3⟩
  rw [Nat.testBit_and, y1, Bool.true_and] at y2
  exact y2
 have hxy : x < y := by
  rcases Nat.lt_trichotomy x y with c | c | c
  ·exact c
  ·subst c; rw [x1] at y2; cases y2
  ·have := x3 y c; rw [y1, y2] at this; cases this
 have lf := h.lt f hf
 have hx8 : x < 8 := by have := bit_lt (h.lt g hg) x1; have := h.m8; omega
 obtain ⟨k, k1, k2⟩ := ho.idx hi y3 (by rw [hfe]; exact lx_swap (h.lt256 hf) hx8 y1 x2 hxy)
 refine ⟨k, k1, ?_, ?_⟩
 ·rw [k2]
  have e : f &&& (dif f (2 ^ y) ||| 2 ^ x) = dif f (2 ^ y) := bx fun t => by
   rw [Nat.testBit_and, Nat.testBit_or, testBit_dif, testBit_pow, testBit_pow]
   by_cases c : x = t
   ·subst c; rw [x2]; rfl
   ·cases f.testBit t <;> simp [c]
  rw [e, cnt_dif lf y1]
 ·rw [k2]
  intro t ht
  rw [Nat.testBit_and, Bool.and_eq_true] at ht
  rw [Nat.testBit_or, testBit_dif, testBit_pow, testBit_pow, ht.1]
  have : ¬ y = t := fun e => by subst e; rw [y2] at ht; cases ht.2
  simp [this]
end
theorem two_eqU : rotakeep_two = some (((4 : Nat) : Int), cs (uniL 4 2)) := by
 rw [show uniL 4 2 = [3, 5, 6, 9, 10, 12] from by decide +kernel]; rfl
theorem list_extI {a b : List Int} (hl : a.length = b.length) (h : ∀ i, i < a.length → a.getD i 0 = b.getD i 0) : a = b :=
 List.ext_getElem hl fun i h1 h2 => by
  have := h i h1
  rw [List.getD_eq_getElem?_getD, List.getD_eq_getElem?_getD, List.getElem?_eq_getElem h1, List.getElem?_eq_getElem h2] at this
  exact this
theorem Same_spec (a b : List Int) : rotalaw_Same_int a b = some (decide (a = b)) := by
 refine Gets.eq ?_
 unfold rotalaw_Same_int
 refine gIte (fun q => gSome ?_) fun q => ?_
 ·have : a ≠ b := fun e => q (by rw [e])
  simp [this]
 have hl : a.length = b.length := by omega
 refine gBind (R := fun z => match z with | .inl _ => a = b | .inr r => r = false ∧ a ≠ b) (gFor a.length (fun k (x : Int) => x = (k : Int) ∧ ∀ j, j < k → a.getD j 0 = b.getD j 0) (Nat.zero_le _) ⟨rfl, none_all⟩ ?_) ?_
 ·rintro k _ hk ⟨rfl, hI⟩
  simp only [toNat_nat]
  refine gIte (fun h1 => gChk (by omega) (gIte (fun q => gSome ⟨rfl, fun e => q (by rw [e])⟩) fun q => gSome ⟨by omega, by simp, step_all hI (by omega)⟩)) fun h1 => gSome ?_
  refine list_extI hl fun i hi => hI i (by omega)
 ·rintro (u | r) hz
  ·exact gSome (by simp [show a = b from hz])
  ·exact gSome (by rw [hz.1]; simp [hz.2])
theorem setofM (p : Nat → Prop) : ∀ n, ∃ D, D < 2 ^ n ∧ ∀ x, D.testBit x = true ↔ x < n ∧ p x := by
 intro n
 induction n with
 | zero => exact ⟨0, by decide, fun x => by simp⟩
 | succ n ih =>
  obtain ⟨D, hD, h⟩ := ih
  by_cases q : p n
  ·refine ⟨2 ^ n + D, by rw [Nat.pow_succ]; omega, fun x => ?_⟩
   rcases Nat.lt_trichotomy x n with c | rfl | c
   ·rw [Nat.testBit_two_pow_add_gt c, h]
    exact ⟨fun a => ⟨by omega, a.2⟩, fun a => ⟨c, a.2⟩⟩
   ·rw [Nat.testBit_two_pow_add_eq, Nat.testBit_lt_two_pow hD]
    simp [q]
   ·have : (2 ^ n + D).testBit x = false := Nat.testBit_lt_two_pow (Nat.lt_of_lt_of_le (show 2 ^ n + D < 2 ^ (n + 1) by rw [Nat.pow_succ]; omega) (Nat.pow_le_pow_right (by decide) c))
    rw [this]
    simp; omega
  ·refine ⟨D, by rw [Nat.pow_succ]; omega, fun x => ?_⟩
   rw [h]
   refine ⟨fun a => ⟨by omega, a.2⟩, fun a => ⟨?_, a.2⟩⟩
   rcases Nat.lt_or_ge x n with c | c
   ·exact c
   ·have : x = n := by omega
    subst this; exact absurd a.2 q
theorem len_leM : ∀ {P Q : List Nat}, P.Nodup → (∀ a, a ∈ P → a ∈ Q) → P.length ≤ Q.length := by
 intro P
 induction P with
 | nil => intro Q _ _; exact Nat.zero_le _
 | cons a P ih =>
  intro Q hn h
  have ha := h a (List.mem_cons_self ..)
  have hn' := List.nodup_cons.1 hn
  have := ih (Q := Q.erase a) hn'.2 fun b hb => (List.mem_erase_of_ne (by intro e; subst e; exact hn'.1 hb)).2 (h b (List.mem_cons_of_mem _ hb))
  rw [List.length_erase_of_mem ha] at this
  have : 0 < Q.length := List.length_pos_of_mem ha
  simp only [List.length_cons]
  omega
/-- The elements below m, as a list. -/
def elM (m s : Nat) : List Nat := (List.range m).filter fun x => s.testBit x
theorem elM_len (s : Nat) : ∀ m, (elM m s).length = cnt m s
 | 0 => rfl
 | m + 1 => by
  unfold elM
  rw [List.range_succ, List.filter_append, List.length_append]
  have := elM_len s m
  unfold elM at this
  rw [this]
  show _ = cnt m s + _
  by_cases q : s.testBit m = true <;> simp [q]
theorem mem_elM {m s x : Nat} : x ∈ elM m s ↔ x < m ∧ s.testBit x = true := by simp [elM]
theorem mid_tab : ((List.range 9).all fun m => (List.range 9).all fun d => Nat.ble ((List.range (2 ^ m)).filter fun s => Nat.beq (cnt m s) d).length 70) = true := by kernel_rfl
theorem few {m d : Nat} (h8 : m ≤ 8) (hd : d ≤ 8) {O : List Nat} (hn : O.Nodup) (h : ∀ s, s ∈ O → s < 2 ^ m ∧ cnt m s = d) : O.length ≤ 70 := by
 have h1 := Nat.le_of_ble_eq_true (List.all_eq_true.1 (List.all_eq_true.1 mid_tab m (List.mem_range.2 (by omega))) d (List.mem_range.2 (by omega)))
 refine Nat.le_trans (len_leM hn fun s hs => ?_) h1
 rw [List.mem_filter, List.mem_range]
 exact ⟨(h s hs).1, by rw [(h s hs).2]; exact Nat.beq_refl d⟩
theorem s0_le (R : Nat → List Nat) (k : Nat) : ∀ n, rn n R k ≤ n
 | 0 => Nat.le_refl _
 | n + 1 => by
  have := s0_le R k n
  show rn n R k + (if (R n).length = k then 1 else 0) ≤ n + 1
  split <;> omega
theorem sum_rn (c : Nat → Nat) (R : Nat → List Nat) (k : Nat) : ∀ n, (∀ i, i < n → (R i).length = c i) → sumN n (fun t => if c t = k then 1 else 0) = ((rn n R k : Nat) : Int)
 | 0, _ => rfl
 | n + 1, h => by
  show sumN n _ + _ = ((rn n R k + (if (R n).length = k then 1 else 0) : Nat) : Int)
  rw [sum_rn c R k n fun i hi => h i (by omega), h n (by omega)]
  by_cases q : c n = k <;> simp [q]
theorem h_zeroM (m : Nat) (L : List Nat) : hN m L 0 = fN m L 0 := by
 unfold hN hT
 simp only [sumN]
 have : bin (dimL m L - 0) (0 - 0) = 1 := by cases dimL m L <;> rfl
 rw [this]
 simp [sg]
/-- The numbers h of what is shelled. -/
theorem h_mac {m : Nat} {L O : List Nat} (hv : Shv m L O) (hS : Shell m O) {k : Nat} (h1 : 1 ≤ k) (hk : k + 1 ≤ dimL m L) :
  ∃ a b : Nat, hN m L k = (a : Int) ∧ hN m L (k + 1) = (b : Int) ∧ a < 71 ∧ b ≤ tM k a := by
 have h8 := hv.cx.m8
 have hd := dim_le m L
 have hex : ∀ i, ∃ R, i < O.length → IsRes O i R := fun i => by
  obtain ⟨D, hD, h⟩ := setofM (fun x => (O.getD i 0).testBit x = true ∧ ∃ j, j < i ∧ O.getD j 0 &&& O.getD i 0 = dif (O.getD i 0) (2 ^ x)) m
  refine ⟨D, fun hi x => ?_⟩
  rw [h]
  refine ⟨fun a => a.2, fun a => ⟨?_, a⟩⟩
  rcases Nat.lt_or_ge x m with c | c
  ·exact c
  ·have := Nat.testBit_lt_two_pow (Nat.lt_of_lt_of_le (hv.lt hi).2 (Nat.pow_le_pow_right (by decide) c))
   rw [this] at a; cases a.1
 let R : Nat → Nat := fun i => Classical.choose (hex i)
 have hR : ∀ i, i < O.length → IsRes O i (R i) := fun i hi => Classical.choose_spec (hex i) hi
 have hmem : ∀ i, i < O.length → O.getD i 0 ∈ L := fun i hi => (hv.lt hi).1
 have hsh : Shl (List.range m) O.length (dimL m L) (fun i => elM m (O.getD i 0)) (fun i => elM m (R i)) := by
  refine ⟨fun i hi v hv' => List.mem_range.2 (mem_elM.1 hv').1, fun i hi => List.nodup_range.filter _, fun i hi => ?_, fun i hi v hv' => ?_, fun i hi => List.nodup_range.filter _, fun i hi g hg => ?_⟩
  ·rw [elM_len]; exact hv.pure _ (hmem i hi)
  ·have := mem_elM.1 hv'
   exact mem_elM.2 ⟨this.1, (hR i hi).inc v this.2⟩
  ·obtain ⟨s, hs, hb⟩ := setofM (fun v => 0 < g v) m
   have hin : ∀ j, (Sp g (elM m (O.getD j 0)) ↔ Inc s (O.getD j 0)) := fun j => by
    constructor
    ·intro h x hx
     exact (mem_elM.1 (h x ((hb x).1 hx).2)).2
    ·intro h v hv'
     have hvm := (mem_elM.1 (hg v hv')).1
     exact mem_elM.2 ⟨hvm, h v ((hb v).2 ⟨hvm, hv'⟩)⟩
   have hsi := (hin i).1 hg
   have hRs : (∀ v, v ∈ elM m (R i) → 0 < g v) ↔ Inc (R i) s := by
    constructor
    ·intro h x hx
     have : x ∈ elM m (O.getD i 0) := by
      refine mem_elM.2 ⟨?_, (hR i hi).inc x hx⟩
      rcases Nat.lt_or_ge x m with c | c
      ·exact c
      ·have := Nat.testBit_lt_two_pow (Nat.lt_of_lt_of_le (hv.lt hi).2 (Nat.pow_le_pow_right (by decide) c))
       have h2 := (hR i hi).inc x hx
       rw [this] at h2; cases h2
     have hxm := (mem_elM.1 this).1
     exact (hb x).2 ⟨hxm, h x (mem_elM.2 ⟨hxm, hx⟩)⟩
    ·intro h v hv'
     exact ((hb v).1 (h v (mem_elM.1 hv').2)).2
   rw [hRs]
   constructor
   ·rintro ⟨l, hl, hsl⟩ hr
    exact shell_only (hv.lt hi).2 hS hi hl (hR i hi) hsi hr ((hin l).1 hsl)
   ·intro hn
    refine Classical.byContradiction fun q => hn (shell_first (hR i hi) hsi fun j hj hsj => q ⟨j, hj, (hin j).2 hsj⟩)
 have hval : ∀ j, j ≤ dimL m L → hN m L j = ((rn O.length (fun i => elM m (R i)) j : Nat) : Int) := fun j hj => by
  rw [h_shell h8 hv.cx.lt hv.perm hv.pure hS hR hj]
  exact sum_rn (fun t => cnt m (R t)) _ j _ fun i hi => elM_len _ _
 have hO : O.length ≤ 70 := few h8 (d := dimL m L) (by omega) (hv.perm.nodup_iff.2 hv.cx.toFam.nodup) fun s hs => by
  have := hv.perm.mem_iff.1 hs
  exact ⟨hv.cx.lt _ this, hv.pure _ this⟩
 have hb := s0_le (fun i => elM m (R i)) k O.length
 exact ⟨_, _, hval k (by omega), hval (k + 1) hk, by omega, mac_range (by omega) hsh h1 (by omega) (by omega)⟩
end Go.SH
