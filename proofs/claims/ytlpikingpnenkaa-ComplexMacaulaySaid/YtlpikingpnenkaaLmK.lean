/-
 Complexes: the numbers h, shellings and restrictions (what ComplexMacaulay needs of the elder texts). Conditions: none.
-/
import Derived.Test.YtlpikingpnenkaaSp
import Derived.Test.YtlpikingpnenkaaHK
import Derived.Test.YtlpikingpnenkaaLMj
import Derived.Test.YtlpikingpnenkaaSprotakeep
set_option linter.unusedSimpArgs false
set_option linter.unusedVariables false
set_option linter.unusedSectionVars false
namespace Go.SH
open Go Go.AX
/-- g 0 + .. + g (n - 1). -/
def sumN : Nat → (Nat → Int) → Int
 | 0, _ => 0
 | n + 1, g => sumN n g + g n
theorem sumN_congr {n : Nat} {g h : Nat → Int} (e : ∀ i, i < n → g i = h i) : sumN n g = sumN n h := by
 induction n with
 | zero => rfl
 | succ n ih => simp only [sumN]; rw [ih fun i hi => e i (by omega), e n (by omega)]
theorem sumN_add (n : Nat) (g h : Nat → Int) : sumN n (fun i => g i + h i) = sumN n g + sumN n h := by
 induction n with
 | zero => rfl
 | succ n ih => simp only [sumN]; rw [ih]; omega
theorem sumN_zero (n : Nat) : sumN n (fun _ => 0) = 0 := by
 induction n with
 | zero => rfl
 | succ n ih => simp only [sumN]; rw [ih]; rfl
theorem sumN_mul (n : Nat) (c : Int) (g : Nat → Int) : sumN n (fun i => c * g i) = c * sumN n g := by
 induction n with
 | zero => simp [sumN]
 | succ n ih => simp only [sumN]; rw [ih, Int.mul_add]
theorem sumN_single (n i : Nat) (v : Int) (h : i < n) : sumN n (fun j => if j = i then v else 0) = v := by
 induction n with
 | zero => omega
 | succ n ih =>
  simp only [sumN]
  rcases Nat.lt_or_ge i n with q | q
  ·rw [ih q, if_neg (by omega)]; omega
  ·have : i = n := by omega
   subst this
   rw [if_pos rfl, sumN_congr (h := fun _ => 0) fun j hj => if_neg (by omega), sumN_zero]; omega
theorem sumN_swap (n m : Nat) (g : Nat → Nat → Int) : sumN n (fun i => sumN m (fun j => g i j)) = sumN m (fun j => sumN n (fun i => g i j)) := by
 induction n with
 | zero => simp only [sumN]; exact (sumN_zero m).symm
 | succ n ih => simp only [sumN]; rw [ih, ← sumN_add]
/-- How many of the first m elements a set has. -/
def cnt : Nat → Nat → Nat
 | 0, _ => 0
 | m + 1, s => cnt m s + if s.testBit m then 1 else 0
/-- How many elements a set has (of eight). -/
def size (s : Nat) : Nat := cnt 8 s
theorem cnt_le (m s : Nat) : cnt m s ≤ m := by
 induction m with
 | zero => exact Nat.le_refl _
 | succ m ih => simp only [cnt]; split <;> omega
theorem cnt_congr {m s t : Nat} (h : ∀ i, i < m → s.testBit i = t.testBit i) : cnt m s = cnt m t := by
 induction m with
 | zero => rfl
 | succ m ih => simp only [cnt]; rw [ih fun i hi => h i (by omega), h m (by omega)]
theorem cnt_mono {m s t : Nat} (h : ∀ i, i < m → s.testBit i = true → t.testBit i = true) : cnt m s ≤ cnt m t := by
 induction m with
 | zero => exact Nat.le_refl _
 | succ m ih =>
  simp only [cnt]
  have := ih fun i hi => h i (by omega)
  have := h m (by omega)
  split <;> split <;> simp_all <;> omega
theorem cnt_zero (m : Nat) : cnt m 0 = 0 := by
 induction m with
 | zero => rfl
 | succ m ih => simp [cnt, ih]
theorem testBit_pow (i j : Nat) : (2 ^ i).testBit j = decide (i = j) := Nat.testBit_two_pow
theorem cnt_add {m s : Nat} {i : Nat} (hi : i < m) (h : s.testBit i = false) : cnt m (s ||| 2 ^ i) = cnt m s + 1 := by
 induction m with
 | zero => omega
 | succ m ih =>
  simp only [cnt, Nat.testBit_or, testBit_pow]
  rcases Nat.lt_or_ge i m with q | q
  ·rw [ih q]
   have : decide (i = m) = false := by simp; omega
   rw [this, Bool.or_false]; omega
  ·have : i = m := by omega
   subst this
   have e : cnt i (s ||| 2 ^ i) = cnt i s := cnt_congr fun j hj => by
    rw [Nat.testBit_or, testBit_pow]
    have : decide (i = j) = false := by simp; omega
    rw [this, Bool.or_false]
   rw [e, h]; simp
theorem bit_ge {s m i : Nat} (hs : s < 2 ^ m) (h : m ≤ i) : s.testBit i = false := by
 cases hb : s.testBit i
 ·rfl
 ·have := bit_lt hs hb; omega
theorem cnt_of_lt {m k s : Nat} (hs : s < 2 ^ m) (hk : m ≤ k) : cnt k s = cnt m s := by
  induction k with
  | zero => have : m = 0 := by omega
            subst this; rfl
  | succ k ih =>
    rcases Nat.lt_or_ge m (k + 1) with q | q
    · simp only [cnt]; rw [ih (by omega), bit_ge hs (by omega)]; simp
    · have : m = k + 1 := by omega
      rw [this]
theorem size_of_lt {m s : Nat} (hs : s < 2 ^ m) (hm : m ≤ 8) : size s = cnt m s := cnt_of_lt hs hm
theorem dif_self_pow {s i j : Nat} (h : s.testBit j = true) (hij : i ≠ j) : (dif s (2 ^ i)).testBit j = true := by
 rw [testBit_dif, testBit_pow, h]; simp [hij]
theorem dif_or {c i : Nat} (h1 : c.testBit i = true) : dif c (2 ^ i) ||| 2 ^ i = c := by
 apply Nat.eq_of_testBit_eq; intro j
 rw [Nat.testBit_or, testBit_dif, testBit_pow]
 by_cases e : i = j
 ·subst e; simp [h1]
 ·simp [e]
theorem cnt_dif {m c i : Nat} (hc : c < 2 ^ m) (h1 : c.testBit i = true) : cnt m c = cnt m (dif c (2 ^ i)) + 1 := by
 have := cnt_add (m := m) (s := dif c (2 ^ i)) (bit_lt hc h1) (by rw [testBit_dif, testBit_pow]; simp)
 rwa [dif_or h1] at this
theorem cnt_pos {m c i : Nat} (hc : c < 2 ^ m) (h1 : c.testBit i = true) : 0 < cnt m c := by have := cnt_dif hc h1; omega
theorem exists_bit {c : Nat} (h : c ≠ 0) : ∃ i, c.testBit i = true := by
 rcases Classical.em (∃ i, c.testBit i = true) with q | q
 ·exact q
 ·exfalso; apply h
  apply Nat.eq_of_testBit_eq; intro i
  rw [Nat.zero_testBit]
  cases hb : c.testBit i
  ·rfl
  ·exact absurd ⟨i, hb⟩ q
theorem bool_ne {b : Bool} (h : ¬ b = true) : b = false := by cases b <;> simp_all
theorem Inc.antisymm {a b : Nat} (h : Inc a b) (k : Inc b a) : a = b := by
 apply Nat.eq_of_testBit_eq; intro i
 rw [Bool.eq_iff_iff]; exact ⟨h i, k i⟩
theorem step_all {p : Nat → Prop} {k : Nat} (h1 : ∀ j, j < k → p j) (h2 : p k) : ∀ j, j < k + 1 → p j := fun j hj => by
 rcases Nat.lt_or_ge j k with q | q
 ·exact h1 j q
 ·have : j = k := by omega
  subst this; exact h2
theorem none_all {p : Nat → Prop} : ∀ j, j < 0 → p j := fun j hj => absurd hj (Nat.not_lt_zero j)
/-- A list of sets, as numbers of the program's. -/
def cs (L : List Nat) : List Int := L.map Nat.cast
@[simp] theorem cs_len (L : List Nat) : (cs L).length = L.length := by simp [cs]
theorem cs_get (L : List Nat) (k : Nat) : (cs L).getD k 0 = ((L.getD k 0 : Nat) : Int) := by
 simp only [cs, List.getD_eq_getElem?_getD, List.getElem?_map]
 cases L[k]? <;> simp
theorem cs_app (L : List Nat) (a : Nat) : cs L ++ [(a : Int)] = cs (L ++ [a]) := by simp [cs]
theorem cs_inj {L K : List Nat} (h : cs L = cs K) : L = K := by
 have := congrArg (List.map Int.toNat) h
 simpa [cs, Function.comp_def] using this
theorem cs_of {l : List Int} (h : ∀ k, k < l.length → 0 ≤ l.getD k 0) : l = cs (l.map Int.toNat) := by
 apply List.ext_getElem? ; intro i
 simp only [cs, List.map_map, List.getElem?_map]
 cases hi : l[i]? with
 | none => rfl
 | some x =>
  have hlt := (List.getElem?_eq_some_iff.1 hi).1
  have := h i hlt
  rw [List.getD_eq_getElem?_getD, hi] at this
  simp only [Option.getD_some] at this
  simp only [Option.map_some, Function.comp_apply, Option.some.injEq]; omega
theorem cs_mem (L : List Nat) (a : Nat) : (a : Int) ∈ cs L ↔ a ∈ L := by
 simp only [cs, List.mem_map]
 constructor
 ·rintro ⟨b, h, e⟩; have : b = a := by omega
  rwa [← this]
 ·intro h; exact ⟨a, h, rfl⟩
theorem Fam.ext {m n : Nat} {L K : List Nat} (h : Fam m L) (h' : Fam n K) (e : ∀ s, s ∈ L ↔ s ∈ K) : L = K := by
  have sorted : ∀ {m : Nat} {L : List Nat}, Fam m L → L.Pairwise (· < ·) := fun {m L} h => by
    rw [List.pairwise_iff_getElem]
    intro i j hi hj hij
    have := h.rise i j hij hj
    simpa [List.getD_eq_getElem?_getD, List.getElem?_eq_getElem hi, List.getElem?_eq_getElem hj] using this
  have s1 := sorted h
  have s2 := sorted h'
  clear h h'
  induction L generalizing K with
  | nil =>
    cases K with
    | nil => rfl
    | cons b K => exact absurd ((e b).2 (by simp)) (by simp)
  | cons a L ih =>
    cases K with
    | nil => exact absurd ((e a).1 (by simp)) (by simp)
    | cons b K =>
      rw [List.pairwise_cons] at s1 s2
      have hab : a = b := by
        rcases List.mem_cons.1 ((e a).1 (by simp)) with q | q
        · exact q
        · rcases List.mem_cons.1 ((e b).2 (by simp)) with r | r
          · exact r.symm
          · have := s1.1 b r; have := s2.1 a q; omega
      subst hab
      rw [ih (fun s => ?_) s1.2 s2.2]
      constructor
      · intro hs
        rcases List.mem_cons.1 ((e s).1 (by simp [hs])) with q | q
        · subst q; have := s1.1 s hs; omega
        · exact q
      · intro hs
        rcases List.mem_cons.1 ((e s).2 (by simp [hs])) with q | q
        · subst q; have := s2.1 s hs; omega
        · exact q
theorem sets_Family_spec (n : Int) (l : List Int) (hl : l.length ≤ 9223372036854775807) : Gets (sets_Family n l) (fun r => (r = 0 ∧ ∃ m L, n = (m : Nat) ∧ l = cs L ∧ Fam m L) ∨ (r = 1 ∧ ¬ ∃ m L, n = (m : Nat) ∧ l = cs L ∧ Fam m L)) := by
 unfold sets_Family
 refine gIte (fun h => gSome (.inr ⟨rfl, ?_⟩)) fun h => ?_
 ·rintro ⟨m, L, rfl, rfl, hf⟩
  have := hf.m8; omega
 ·obtain ⟨m, rfl⟩ := Int.eq_ofNat_of_zero_le (show 0 ≤ n by omega)
  refine gBind (R := fun z => match z with | .inl _ => ∀ k, k < l.length → 0 ≤ l.getD k 0 ∧ l.getD k 0 < ((2 ^ m : Nat) : Int) ∧ (0 < k → l.getD (k - 1) 0 < l.getD k 0) | .inr r => r = 1 ∧ ¬ ∀ k, k < l.length → 0 ≤ l.getD k 0 ∧ l.getD k 0 < ((2 ^ m : Nat) : Int) ∧ (0 < k → l.getD (k - 1) 0 < l.getD k 0))
   (gFor l.length (fun k v => v = (k : Int) ∧ ∀ j, j < k → 0 ≤ l.getD j 0 ∧ l.getD j 0 < ((2 ^ m : Nat) : Int) ∧ (0 < j → l.getD (j - 1) 0 < l.getD j 0)) (Nat.zero_le _) ⟨rfl, none_all⟩ ?_) ?_
  ·rintro k _ hk ⟨rfl, hb⟩
   refine gIte (fun h1 => gChk (by omega) ?_) fun h1 => gSome fun j hj => hb j (by omega)
   have e : ((k : Int) - 1).toNat = k - 1 := by omega
   simp only [toNat_nat, shl_nat', e]
   refine gChk (by omega) (gIte (fun h2 => gSome ⟨rfl, fun h3 => ?_⟩) fun h2 => gSome ⟨by omega, by simp, step_all hb (by omega)⟩)
   have := h3 k (by omega)
   omega
  ·rintro (u | rr) hz
   ·refine gSome (.inl ⟨rfl, m, l.map Int.toNat, rfl, cs_of fun k hk => (hz k hk).1, by omega, fun s hs => ?_, fun i j hij hj => ?_⟩)
    ·obtain ⟨k, h1, h2⟩ := mem_getD.1 hs
     rw [cs_of fun k hk => (hz k hk).1] at hz
     have := (hz k (by simpa using h1)).2.1
     rw [cs_get, h2] at this; omega
    ·have hcs := cs_of fun k hk => (hz k hk).1
     have key : ∀ d i, i + d + 1 < l.length → l.getD i 0 < l.getD (i + d + 1) 0 := fun d => by
      induction d with
      | zero => intro i hi; exact (hz (i + 1) hi).2.2 (by omega)
      | succ d ih => intro i hi; have := ih i (by omega); have := (hz (i + (d + 1) + 1) hi).2.2 (by omega); rw [show i + (d + 1) + 1 - 1 = i + d + 1 by omega] at this; omega
     have := key (j - i - 1) i (by simp at hj; omega)
     rw [show i + (j - i - 1) + 1 = j by omega, hcs, cs_get, cs_get] at this
     omega
   ·refine gSome (.inr ⟨hz.1, ?_⟩)
    rintro ⟨m', L, he, rfl, hf⟩
    have : m' = m := by omega
    subst this
    refine hz.2 fun k hk => ?_
    rw [cs_len] at hk
    rw [cs_get, cs_get]
    have h1 := hf.lt _ (mem_getD.2 ⟨k, hk, rfl⟩)
    refine ⟨by omega, by omega, fun h0 => ?_⟩
    have := hf.rise (k - 1) k (by omega) hk
    omega
theorem cnt_le_of_inc {m a b : Nat} (h : Inc a b) : cnt m a ≤ cnt m b := cnt_mono fun i _ hi => h i hi
theorem inc_and_l (a b : Nat) : Inc (a &&& b) a := fun i hi => by rw [Nat.testBit_and, Bool.and_eq_true] at hi; exact hi.1
theorem inc_and {a b c : Nat} (h : Inc c a) (k : Inc c b) : Inc c (a &&& b) := fun i hi => by rw [Nat.testBit_and, h i hi, k i hi]; rfl
theorem inc_or_l (a b : Nat) : Inc a (a ||| b) := fun i hi => by rw [Nat.testBit_or, hi]; rfl
theorem inc_zero (a : Nat) : Inc 0 a := fun i hi => by simp at hi
theorem not_inc {a b : Nat} (h : ¬ Inc a b) : ∃ i, a.testBit i = true ∧ b.testBit i = false := by
 rcases Classical.em (∃ i, a.testBit i = true ∧ b.testBit i = false) with q | q
 ·exact q
 ·exfalso; apply h; intro i hi
  cases hb : b.testBit i
  ·exact absurd ⟨i, hi, hb⟩ q
  ·rfl
theorem cnt_lt_of {m a b i : Nat} (h : Inc a b) (hb : b < 2 ^ m) (h1 : b.testBit i = true) (h2 : a.testBit i = false) : cnt m a < cnt m b := by
 have h3 := cnt_dif hb h1
 have : Inc a (dif b (2 ^ i)) := fun j hj => dif_self_pow (h j hj) (by rintro rfl; rw [hj] at h2; cases h2)
 have := cnt_le_of_inc (m := m) this
 omega
theorem inc_eq_of_cnt {m a b : Nat} (h : Inc a b) (hb : b < 2 ^ m) (hc : cnt m b ≤ cnt m a) : a = b := by
 refine Inc.antisymm h fun i hi => ?_
 cases q : a.testBit i
 ·have := cnt_lt_of h hb hi q; omega
 ·rfl
theorem foldl_max_le {B : List Nat} {f : Nat → Nat} {a k : Nat} : B.foldl (fun r b => max r (f b)) a ≤ k ↔ a ≤ k ∧ ∀ b, b ∈ B → f b ≤ k := by
 induction B generalizing a with
 | nil => simp
 | cons c B ih =>
  rw [List.foldl_cons, ih]
  constructor
  ·rintro ⟨h1, h2⟩
   refine ⟨by omega, fun b hb => ?_⟩
   rcases List.mem_cons.1 hb with rfl | hb
   ·omega
   ·exact h2 b hb
  ·rintro ⟨h1, h2⟩
   have := h2 c (by simp)
   exact ⟨by omega, fun b hb => h2 b (by simp [hb])⟩
theorem sumN_split (a : Nat) (f : Nat → Int) : ∀ b, sumN (a + b) f = sumN a f + sumN b (fun i => f (a + i))
 | 0 => by simp [sumN]
 | b + 1 => by
  rw [← Nat.add_assoc]
  simp only [sumN]
  rw [sumN_split a f b]; omega
theorem sumN_two (m : Nat) (f : Nat → Int) : sumN (2 ^ (m + 1)) f = sumN (2 ^ m) f + sumN (2 ^ m) (fun i => f (2 ^ m + i)) := by
 rw [show 2 ^ (m + 1) = 2 ^ m + 2 ^ m by rw [Nat.pow_succ]; omega, sumN_split]
theorem add_bit {m s : Nat} (h : s < 2 ^ m) (i : Nat) : (2 ^ m + s).testBit i = (decide (i = m) || s.testBit i) := by
 rw [Nat.add_comm, ← Nat.or_eq_add_of_lt h, Nat.testBit_or, testBit_pow, Bool.or_comm]
 congr 1
 exact decide_eq_decide.2 ⟨fun e => e.symm, fun e => e.symm⟩
where
 Nat.or_eq_add_of_lt {m s : Nat} (h : s < 2 ^ m) : s ||| 2 ^ m = s + 2 ^ m := by
  have := Nat.two_pow_add_eq_or_of_lt h 1
  rw [Nat.mul_one] at this
  rw [Nat.or_comm, ← this, Nat.add_comm]
/-- Plus for even, minus for odd. -/
def sg (k : Nat) : Int := if k % 2 = 0 then 1 else -1
theorem oc_tab : ∀ a : Fin 256, oc (a.val : Int) = ((size a.val : Nat) : Int) := of_decide_eq_true (by kernel_rfl)
theorem oc_size {a : Nat} (h : a < 256) : oc (a : Int) = ((size a : Nat) : Int) := oc_tab ⟨a, h⟩
theorem set_getD {l : List Int} {k : Nat} (v : Int) (hk : k < l.length) (j : Nat) : (l.set k v).getD j 0 = if j = k then v else l.getD j 0 := by
 simp only [List.getD_eq_getElem?_getD, List.getElem?_set]
 by_cases e : k = j
 ·subst e; simp [hk]
 ·rw [if_neg e, if_neg (fun e' => e e'.symm)]
theorem list_ext_getD {l k : List Int} (h : l.length = k.length) (e : ∀ i, i < l.length → l.getD i 0 = k.getD i 0) : l = k := by
 apply List.ext_getElem h
 intro i h1 h2
 have := e i h1
 simpa [List.getD_eq_getElem?_getD, List.getElem?_eq_getElem h1, List.getElem?_eq_getElem h2] using this
theorem filter_fam {m : Nat} (h8 : m ≤ 8) (p : Nat → Bool) : Fam m ((List.range (2 ^ m)).filter p) := by
  refine ⟨h8, fun s hs => by simpa using (List.mem_filter.1 hs).1, fun i j hij hj => ?_⟩
  have hp : ((List.range (2 ^ m)).filter p).Pairwise (· < ·) := List.Pairwise.filter _ List.pairwise_lt_range
  have hi := Nat.lt_trans hij hj
  have := List.pairwise_iff_getElem.1 hp i j hi hj hij
  rw [List.getD_eq_getElem?_getD, List.getD_eq_getElem?_getD, List.getElem?_eq_getElem hj, List.getElem?_eq_getElem hi]
  exact this
theorem sumN_abs {n : Nat} {g : Nat → Int} {c : Int} (hg : ∀ i, i < n → -c ≤ g i ∧ g i ≤ c) : -(n * c) ≤ sumN n g ∧ sumN n g ≤ n * c := by
 induction n with
 | zero => simp [sumN]
 | succ n ih =>
  simp only [sumN]
  have h1 := ih fun i hi => hg i (by omega)
  have h2 := hg n (by omega)
  have e : ((n + 1 : Nat) : Int) * c = n * c + c := by rw [Int.natCast_add, Int.add_mul]; simp
  rw [e]; omega
/-- A complex by its facets. -/
structure Cx (m : Nat) (L : List Nat) : Prop extends Fam m L where
 ne : L ≠ []
 anti : ∀ s, s ∈ L → ∀ t, t ∈ L → Inc s t → s = t
def Face (L : List Nat) (s : Nat) : Prop := ∃ f, f ∈ L ∧ Inc s f
instance (L : List Nat) (s : Nat) : Decidable (Face L s) := by unfold Face; infer_instance
def facesL (m : Nat) (L : List Nat) : List Nat := (List.range (2 ^ m)).filter fun s => Face L s
theorem mem_facesL {m : Nat} {L : List Nat} {s : Nat} : s ∈ facesL m L ↔ s < 2 ^ m ∧ Face L s := by simp [facesL]
theorem faces_fam {m : Nat} (h8 : m ≤ 8) (L : List Nat) : Fam m (facesL m L) := filter_fam h8 _
theorem complex_Check_spec (n : Int) (l : List Int) (hl : l.length ≤ 9223372036854775807) : Gets (complex_Check n l) (fun r => (r = 0 ∧ ∃ m L, n = (m : Nat) ∧ l = cs L ∧ Cx m L) ∨ (r ≠ 0 ∧ ¬ ∃ m L, n = (m : Nat) ∧ l = cs L ∧ Cx m L)) := by
 unfold complex_Check
 refine gBind (sets_Family_spec n l hl) ?_
 rintro y (⟨rfl, m, L, rfl, rfl, hL⟩ | ⟨rfl, hn⟩)
 rotate_left
 ·exact gIte (fun _ => gSome (.inr ⟨by simp, fun ⟨m, L, h1, h2, h3⟩ => hn ⟨m, L, h1, h2, h3.toFam⟩⟩)) fun q => absurd (by simp) q
 have hlen := hL.len
 have uniq : ∀ {m' : Nat} {L' : List Nat}, (m : Int) = (m' : Nat) → cs L = cs L' → Cx m' L' → Cx m L := fun h1 h2 h3 => by
  have e1 := cs_inj h2
  have e2 : m = _ := Int.ofNat.inj h1
  subst e1 e2; exact h3
 refine gIte (fun q => absurd rfl q) fun _ => gIte (fun q => gSome (.inr ⟨by simp, fun ⟨m', L', h1, h2, h3⟩ => ?_⟩)) fun q => ?_
 ·have hc := uniq h1 h2 h3
  rw [cs_len] at q
  exact hc.ne (List.length_eq_zero_iff.1 (by omega))
 rw [cs_len] at q
 have hne : L ≠ [] := fun e => by rw [e] at q; simp at q
 refine gBind (R := fun z => match z with | .inl _ => ∀ k, k < L.length → ∀ j, j < L.length → Inc (L.getD k 0) (L.getD j 0) → L.getD k 0 = L.getD j 0 | .inr r => r = 3 ∧ ∃ s t, s ∈ L ∧ t ∈ L ∧ Inc s t ∧ s ≠ t)
  (gFor L.length (fun k v => v = (k : Int) ∧ ∀ i, i < k → ∀ j, j < L.length → Inc (L.getD i 0) (L.getD j 0) → L.getD i 0 = L.getD j 0) (Nat.zero_le _) ⟨rfl, fun i hi => absurd hi (Nat.not_lt_zero i)⟩ ?_) ?_
 ·rintro k _ hk ⟨rfl, hb⟩
  simp only [cs_len, cs_get, toNat_nat]
  refine gIte (fun h1 => gChk (by omega) ?_) fun h1 => gSome fun i hi => hb i (by omega)
  have hk' : k < L.length := by omega
  refine gBind (R := fun z => match z with | .inl _ => ∀ j, j < L.length → Inc (L.getD k 0) (L.getD j 0) → L.getD k 0 = L.getD j 0 | .inr r => r = 3 ∧ ∃ s t, s ∈ L ∧ t ∈ L ∧ Inc s t ∧ s ≠ t)
   (gFor L.length (fun i v => v = (i : Int) ∧ ∀ j, j < i → Inc (L.getD k 0) (L.getD j 0) → L.getD k 0 = L.getD j 0) (Nat.zero_le _) ⟨rfl, fun i hi => absurd hi (Nat.not_lt_zero i)⟩ ?_) ?_
  ·rintro i _ hi ⟨rfl, hc⟩
   simp only [toNat_nat, and_nat]
   refine gIte (fun h2 => gChk (by omega) ?_) fun h2 => gSome fun j hj => hc j (by omega)
   have hi' : i < L.length := by omega
   refine gIte (fun q => gSome ⟨rfl, _, _, mem_getD.2 ⟨k, hk', rfl⟩, mem_getD.2 ⟨i, hi', rfl⟩, (sub_iff_and _ _).1 (by omega), by omega⟩) fun q => gSome ⟨hi', by simp, fun j hj hin => ?_⟩
   rcases Nat.lt_succ_iff_lt_or_eq.1 hj with c | rfl
   ·exact hc j c hin
   ·have := (sub_iff_and _ _).2 hin
    omega
  ·rintro (u | rr) hz
   ·refine gSome ⟨hk', by simp, fun i hi => ?_⟩
    rcases Nat.lt_succ_iff_lt_or_eq.1 hi with c | rfl
    ·exact hb i c
    ·exact hz
   ·exact gSome hz
 ·rintro (u | rr) hz
  ·refine gSome (.inl ⟨rfl, m, L, rfl, rfl, hL, hne, fun s hs t ht hi => ?_⟩)
   obtain ⟨k, k1, rfl⟩ := mem_getD.1 hs
   obtain ⟨j, j1, rfl⟩ := mem_getD.1 ht
   exact hz k k1 j j1 hi
  ·obtain ⟨rfl, s, t, h1, h2, h3, h4⟩ := hz
   exact gSome (.inr ⟨by simp, fun ⟨m', L', e1, e2, e3⟩ => h4 ((uniq e1 e2 e3).anti s h1 t h2 h3)⟩)
theorem Cx.check {m : Nat} {L : List Nat} (h : Cx m L) : complex_Check m (cs L) = some 0 := by
 obtain ⟨r, h1, h2⟩ := complex_Check_spec m (cs L) (by have := h.len; simp; omega)
 rcases h2 with ⟨rfl, _⟩ | ⟨_, hn⟩
 ·exact h1
 ·exact absurd ⟨m, L, rfl, rfl, h⟩ hn
theorem complex_size_nat {a : Nat} (h : a < 256) : complex_size (a : Int) = some ((size a : Nat) : Int) := by
 unfold complex_size
 rw [chk_pos (by omega)]
 simp [bits_OnesCount, oc_size h]
theorem ContainsFuncC {L : List Nat} {f : Int → Option Bool} {p : Nat → Bool} (hl : L.length < 2 ^ 60) (hf : ∀ s, s ∈ L → f (s : Nat) = some (p s)) :
  Gets (slices_ContainsFunc_int_int (cs L) f) (fun r => r = true ↔ ∃ s, s ∈ L ∧ p s = true) := by
 unfold slices_ContainsFunc_int_int slices_IndexFunc_int_int
 refine gBind (R := fun r : Int => 0 ≤ r ↔ ∃ s, s ∈ L ∧ p s = true) (gBind (R := fun z => match z with | .inl _ => ∀ k, k < L.length → p (L.getD k 0) = false | .inr r => 0 ≤ r ∧ ∃ s, s ∈ L ∧ p s = true)
  (gFor L.length (fun k v => v = (k : Int) ∧ ∀ j, j < k → p (L.getD j 0) = false) (Nat.zero_le _) ⟨rfl, none_all⟩ ?_) ?_) fun r hr => gSome ?_
 ·rintro k _ hk ⟨rfl, hb⟩
  simp only [cs_len, cs_get, toNat_nat]
  refine gIte (fun h1 => gChk (by omega) ?_) fun h1 => gSome fun j hj => hb j (by omega)
  have hk' : k < L.length := by omega
  have hm : L.getD k 0 ∈ L := mem_getD.2 ⟨k, hk', rfl⟩
  rw [hf _ hm]
  simp only [Option.bind_some]
  refine gIte (fun q => gSome ⟨by omega, _, hm, q⟩) fun q => gSome ⟨hk', by simp, step_all hb (bool_ne q)⟩
 ·rintro (u | rr) hz
  ·refine gSome ⟨fun q => absurd q (by omega), fun ⟨s, hs, hp⟩ => ?_⟩
   obtain ⟨k, hk, rfl⟩ := mem_getD.1 hs
   rw [hz k hk] at hp; cases hp
  ·exact gSome ⟨fun _ => hz.2, fun _ => hz.1⟩
 ·rw [decide_eq_true_eq]; exact hr
theorem faces_ok {m : Nat} {L : List Nat} (hL : Fam m L) : complex_faces m (cs L) = some (cs (facesL m L)) := by
  have h8 := hL.m8
  have h256 := pow_le8 h8
  have hlen := hL.len
  refine Gets.eq ?_
  unfold complex_faces facesL
  simp only [toNat_nat, shl_nat']
  refine gChk (by omega) (gBind (R := fun o => o = cs ((List.range (2 ^ m)).filter fun s => Face L s)) (gFor (2 ^ m) (fun k (x : List Int × Int) => x.2 = (k : Int) ∧ x.1 = cs ((List.range k).filter fun s => Face L s)) (Nat.zero_le _) ⟨rfl, rfl⟩ ?_) fun o ho => gSome ho)
  rintro k ⟨_, _⟩ hk ⟨rfl, rfl⟩
  refine gIte (fun h1 => ?_) fun h1 => gSome (by have e : k = 2 ^ m := by omega
                                                 subst e; rfl)
  have hk' : k < 2 ^ m := by omega
  have hfl := List.length_filter_le (fun s => decide (Face L s)) (List.range k)
  rw [List.length_range] at hfl
  refine gBind (ContainsFuncC (p := fun b => decide (Inc k b)) (by omega) fun s hs => ?_) fun r hr => ?_
  · unfold complex_faces_1
    rw [and_nat]
    congr 1
    rw [Bool.eq_iff_iff, decide_eq_true_eq, decide_eq_true_eq, ← sub_iff_and, Nat.and_comm]
    omega
  · have key : r = true ↔ Face L k := by
      rw [hr]
      exact ⟨fun ⟨f, h1, h2⟩ => ⟨f, h1, of_decide_eq_true h2⟩, fun ⟨f, h1, h2⟩ => ⟨f, h1, decide_eq_true h2⟩⟩
    rw [List.range_succ, List.filter_append] at *
    refine gIte (fun q => gChk (by rw [List.length_append, cs_len]; simp only [List.length_cons, List.length_nil]; omega) (gSome ⟨hk', by simp, ?_⟩)) fun q => gSome ⟨hk', by simp, ?_⟩
    · show _ = cs _
      rw [List.filter_cons, if_pos (by simpa using key.1 q), cs_app]; rfl
    · show _ = cs _
      rw [List.filter_cons, if_neg (by simpa using fun x => q (key.2 x))]; simp
/-- The size of a greatest facet. -/
def dimL (m : Nat) (L : List Nat) : Nat := L.foldl (fun r f => max r (cnt m f)) 0
theorem cnt_le_dim {m : Nat} {L : List Nat} {f : Nat} (h : f ∈ L) : cnt m f ≤ dimL m L := (foldl_max_le (f := cnt m)).1 (Nat.le_refl _) |>.2 f h
theorem dim_le (m : Nat) (L : List Nat) : dimL m L ≤ m := (foldl_max_le (f := cnt m)).2 ⟨by omega, fun f _ => cnt_le m f⟩
def fN (m : Nat) (L : List Nat) (k : Nat) : Nat := (facesL m L).countP fun s => decide (cnt m s = k)
def fL (m : Nat) (L : List Nat) : List Nat := (List.range (dimL m L + 1)).map (fN m L)
theorem fL_len (m : Nat) (L : List Nat) : (fL m L).length = dimL m L + 1 := by simp [fL]
theorem fL_get {m : Nat} {L : List Nat} {k : Nat} (h : k < dimL m L + 1) : (fL m L).getD k 0 = fN m L k := by
 unfold fL
 rw [List.getD_eq_getElem?_getD, List.getElem?_map, List.getElem?_range h]; rfl
theorem face_cnt {m : Nat} {L : List Nat} {s : Nat} (h : Face L s) : cnt m s ≤ dimL m L := let ⟨f, h1, h2⟩ := h; Nat.le_trans (cnt_le_of_inc h2) (cnt_le_dim h1)
theorem fN_le {m : Nat} (h8 : m ≤ 8) (L : List Nat) (k : Nat) : fN m L k ≤ 256 := Nat.le_trans List.countP_le_length (faces_fam h8 L).len
theorem count_ok {m : Nat} {L : List Nat} (hL : Fam m L) : complex_count m (cs L) = some (cs (fL m L)) := by
 have h8 := hL.m8
 have h256 := pow_le8 h8
 have hlen := hL.len
 have hd := dim_le m L
 have hff := faces_fam h8 L
 have hfl := hff.len
 refine Gets.eq ?_
 unfold complex_count
 refine gBind (R := fun o => o = ((dimL m L : Nat) : Int)) (gFor L.length (fun k (x : Int × Int) => x.2 = (k : Int) ∧ x.1 = (((L.take k).foldl (fun r f => max r (cnt m f)) 0 : Nat) : Int)) (Nat.zero_le _) ⟨rfl, rfl⟩ ?_) ?_
 ·rintro k ⟨_, _⟩ hk ⟨rfl, rfl⟩
  simp only [cs_len, cs_get, toNat_nat]
  refine gIte (fun h1 => gChk (by omega) ?_) fun h1 => gSome (by rw [List.take_of_length_le (by omega)]; rfl)
  have hk' : k < L.length := by omega
  have hlt := hL.lt _ (mem_getD.2 ⟨k, hk', rfl⟩)
  have etake : L.take (k + 1) = L.take k ++ [L.getD k 0] := by
   rw [List.take_add_one, List.getD_eq_getElem?_getD, List.getElem?_eq_getElem hk']; rfl
  rw [complex_size_nat (by omega), Option.bind_some, size_of_lt hlt h8]
  refine gSome ⟨hk', by simp, ?_⟩
  rw [etake, List.foldl_append]
  simp only [List.foldl_cons, List.foldl_nil]
  omega
 ·rintro o rfl
  have e1 : (((dimL m L : Nat) : Int) + 1).toNat = dimL m L + 1 := by omega
  refine gChk (by omega) (gBindE (faces_ok hL) ?_)
  rw [e1]
  refine gBind (R := fun o => o = cs (fL m L)) (gFor (facesL m L).length (fun k (x : List Int × Int) => x.2 = (k : Int) ∧ x.1.length = dimL m L + 1 ∧ ∀ j, j < dimL m L + 1 → x.1.getD j 0 = ((((facesL m L).take k).countP (fun s => decide (cnt m s = j)) : Nat) : Int)) (Nat.zero_le _) ⟨rfl, by simp, fun j hj => by
   rw [List.getD_eq_getElem?_getD, List.getElem?_replicate]; simp [hj]⟩ ?_) fun o ho => gSome ho
  rintro k ⟨v, _⟩ hk ⟨rfl, i1, i2⟩
  simp only [cs_len, cs_get, toNat_nat] at i1 i2 ⊢
  refine gIte (fun h1 => gChk (by omega) ?_) fun h1 => gSome ?_
  ·have hk' : k < (facesL m L).length := by omega
   obtain ⟨n1, n2⟩ := mem_facesL.1 (mem_getD.2 ⟨k, hk', rfl⟩)
   have etake : (facesL m L).take (k + 1) = (facesL m L).take k ++ [(facesL m L).getD k 0] := by
    rw [List.take_add_one, List.getD_eq_getElem?_getD, List.getElem?_eq_getElem hk']; rfl
   have r2 := face_cnt (m := m) n2
   rw [complex_size_nat (by omega), size_of_lt n1 h8]
   simp only [Option.bind_some, toNat_nat]
   have hj : cnt m ((facesL m L).getD k 0) < dimL m L + 1 := by omega
   have hcp := List.countP_le_length (p := fun s => decide (cnt m s = cnt m ((facesL m L).getD k 0))) (l := (facesL m L).take k)
   have htl := List.length_take_le k (facesL m L)
   have eN := i2 _ hj
   refine gChk (by omega) (gSome ⟨hk', by simp, by simp [i1], fun j hj2 => ?_⟩)
   show (v.set _ _).getD j 0 = _
   rw [set_getD _ (by omega), etake, List.countP_append, List.countP_cons, List.countP_nil]
   by_cases e : j = cnt m ((facesL m L).getD k 0)
   ·rw [if_pos e, if_pos (by simp [e]), e]; omega
   ·rw [if_neg e, if_neg (by simpa using fun x => e x.symm), i2 j hj2]; omega
  ·have e : k = (facesL m L).length := by omega
   subst e
   refine list_ext_getD (by rw [i1, cs_len, fL_len]) fun j hj => ?_
   rw [i1] at hj
   rw [i2 j hj, cs_get, fL_get hj, List.take_length]; rfl
theorem F_ok {m : Nat} {L : List Nat} (h : Cx m L) : complex_F m (cs L) = some (cs (fL m L), 0) := by
 unfold complex_F
 rw [h.check, Option.bind_some, if_neg (by simp), count_ok h.toFam]; rfl
theorem sg_cases (k : Nat) : sg k = 1 ∨ sg k = -1 := by unfold sg; split <;> simp
def bin : Nat → Nat → Nat
 | _, 0 => 1
 | 0, _ + 1 => 0
 | n + 1, k + 1 => bin n k + bin n (k + 1)
theorem bin_tab : ∀ a : Fin 9, ∀ v : Fin 9, v.val < a.val → bin a.val v.val * (a.val - v.val) = bin a.val (v.val + 1) * (v.val + 1) := by decide
theorem bin_le : ∀ a : Fin 9, ∀ v : Fin 10, bin a.val v.val ≤ 70 := by decide
theorem choose_nat {a k : Nat} (ha : a ≤ 8) (hk : k ≤ a) : complex_choose (a : Int) (k : Int) = some ((bin a k : Nat) : Int) := by
 refine Gets.eq ?_
 unfold complex_choose
 refine gBind (R := fun o => o = ((bin a k : Nat) : Int)) (gFor k (fun v (x : Int × Int) => x.2 = (v : Int) ∧ x.1 = ((bin a v : Nat) : Int)) (Nat.zero_le _) ⟨rfl, by cases a <;> rfl⟩ ?_) fun o ho => gSome ho
 rintro v ⟨_, _⟩ hv ⟨rfl, rfl⟩
 simp only []
 refine gIte (fun h1 => ?_) fun h1 => gSome (by have e : v = k := (by omega); subst e; rfl)
 have hv' : v < k := by omega
 have t1 := bin_tab ⟨a, by omega⟩ ⟨v, by omega⟩ (by simp only; omega)
 have t2 := bin_le ⟨a, by omega⟩ ⟨v + 1, by omega⟩
 have t3 := bin_le ⟨a, by omega⟩ ⟨v, by omega⟩
 simp only at t1 t2 t3
 have e1 : (a : Int) - (v : Int) = ((a - v : Nat) : Int) := by omega
 have e2 : ((bin a v : Nat) : Int) * ((a : Int) - (v : Int)) = ((bin a (v + 1) : Nat) : Int) * ((v + 1 : Nat) : Int) := by
  rw [e1]; exact_mod_cast t1
 have e3 : (v : Int) + 1 = ((v + 1 : Nat) : Int) := by omega
 have e4 : Int.tdiv (((bin a v : Nat) : Int) * ((a : Int) - (v : Int))) ((v : Int) + 1) = ((bin a (v + 1) : Nat) : Int) := by
  rw [e2, e3]; exact Int.mul_tdiv_cancel _ (by omega)
 have e5 : ((bin a (v + 1) : Nat) : Int) * ((v + 1 : Nat) : Int) ≤ 70 * 9 := by
  have : bin a (v + 1) * (v + 1) ≤ 70 * 9 := Nat.mul_le_mul t2 (by omega)
  exact_mod_cast this
 have e6 : 0 ≤ ((bin a (v + 1) : Nat) : Int) * ((v + 1 : Nat) : Int) := by
  have : 0 ≤ bin a (v + 1) * (v + 1) := Nat.zero_le _
  exact_mod_cast this
 simp only [e4]
 exact gChk ⟨by omega, by rw [e2]; omega, by omega, by omega⟩ (gSome ⟨hv', by simp, rfl⟩)
def hT (m : Nat) (L : List Nat) (k i : Nat) : Int := sg (k - i) * ((fN m L i : Nat) * (bin (dimL m L - i) (k - i) : Nat))
def hN (m : Nat) (L : List Nat) (k : Nat) : Int := sumN (k + 1) (hT m L k)
def hL (m : Nat) (L : List Nat) : List Int := (List.range (dimL m L + 1)).map (hN m L)
theorem hL_len (m : Nat) (L : List Nat) : (hL m L).length = dimL m L + 1 := by simp [hL]
theorem hL_get {m : Nat} {L : List Nat} {k : Nat} (h : k < dimL m L + 1) : (hL m L).getD k 0 = hN m L k := by
 unfold hL
 rw [List.getD_eq_getElem?_getD, List.getElem?_map, List.getElem?_range h]; rfl
theorem hP_le {m : Nat} (h8 : m ≤ 8) (L : List Nat) {k i : Nat} (hk : k ≤ dimL m L) (hi : i ≤ k) : 0 ≤ ((fN m L i : Nat) : Int) * (bin (dimL m L - i) (k - i) : Nat) ∧ ((fN m L i : Nat) : Int) * (bin (dimL m L - i) (k - i) : Nat) ≤ 17920 := by
 have hd := dim_le m L
 have t := bin_le ⟨dimL m L - i, by omega⟩ ⟨k - i, by omega⟩
 have f := fN_le h8 L i
 have h1 : fN m L i * bin (dimL m L - i) (k - i) ≤ 256 * 70 := Nat.mul_le_mul f t
 constructor
 ·exact Int.mul_nonneg (Int.natCast_nonneg _) (Int.natCast_nonneg _)
 ·have h3 : ((fN m L i * bin (dimL m L - i) (k - i) : Nat) : Int) ≤ ((17920 : Nat) : Int) := Int.ofNat_le.2 h1
  rw [Int.natCast_mul] at h3
  exact h3
theorem hT_le {m : Nat} (h8 : m ≤ 8) (L : List Nat) {k i : Nat} (hk : k ≤ dimL m L) (hi : i ≤ k) : -17920 ≤ hT m L k i ∧ hT m L k i ≤ 17920 := by
 have h := hP_le h8 L hk hi
 unfold hT
 rcases sg_cases (k - i) with e | e <;> rw [e] <;> omega
theorem hpart_le {m : Nat} (h8 : m ≤ 8) (L : List Nat) {k i : Nat} (hk : k ≤ dimL m L) (hi : i ≤ k + 1) : -(i * 17920) ≤ sumN i (hT m L k) ∧ sumN i (hT m L k) ≤ i * 17920 := sumN_abs (n := i) (c := 17920) fun j hj => hT_le h8 L hk (by omega)
theorem H_ok {m : Nat} {L : List Nat} (h : Cx m L) : complex_H m (cs L) = some (hL m L, 0) := by
 have h8 := h.m8
 have hd := dim_le m L
 refine Gets.eq ?_
 unfold complex_H
 refine gBindE (F_ok h) (gIte (fun q => absurd rfl q) fun _ => ?_)
 have e1 : (((((dimL m L + 1 : Nat)) : Int) - 1) + 1).toNat = dimL m L + 1 := by omega
 simp only [cs_len, fL_len]
 rw [e1]
 simp only [List.length_replicate]
 refine gChk (by omega) (gChk (by omega) ?_)
 refine gBind (R := fun o => o = hL m L) (gFor (dimL m L + 1) (fun k (x : List Int × Int) => x.2 = (k : Int) ∧ x.1.length = dimL m L + 1 ∧ ∀ j, j < dimL m L + 1 → x.1.getD j 0 = if j < k then hN m L j else 0) (Nat.zero_le _) ⟨rfl, by simp, fun j hj => by
  rw [List.getD_eq_getElem?_getD, List.getElem?_replicate]; simp [hj]⟩ ?_) fun o ho => gSome (by rw [ho])
 rintro k ⟨v, _⟩ hk ⟨rfl, i1, i2⟩
 simp only at i1 i2 ⊢
 refine gIte (fun h1 => ?_) fun h1 => gSome ?_
 ·have hk' : k < dimL m L + 1 := by omega
  refine gBind (R := fun o => o.length = dimL m L + 1 ∧ ∀ j, j < dimL m L + 1 → o.getD j 0 = if j < k + 1 then hN m L j else 0) (gFor (k + 1) (fun i (x : List Int × Int) => x.2 = (i : Int) ∧ x.1.length = dimL m L + 1 ∧ x.1.getD k 0 = sumN i (hT m L k) ∧ ∀ j, j < dimL m L + 1 → j ≠ k → x.1.getD j 0 = if j < k then hN m L j else 0) (Nat.zero_le _) ⟨rfl, i1, by rw [i2 k hk', if_neg (by omega)]; rfl, fun j hj _ => i2 j hj⟩ ?_) fun o ho => gSome ⟨hk', by simp, ho.1, ho.2⟩
  rintro i ⟨u, _⟩ hi ⟨rfl, u1, u2, u3⟩
  simp only at u1 u2 u3 ⊢
  refine gIte (fun h2 => ?_) fun h2 => gSome ⟨u1, fun j hj => ?_⟩
  ·have hi' : i ≤ k := by omega
   have ed : ((((dimL m L + 1 : Nat)) : Int) - 1) - (i : Int) = ((dimL m L - i : Nat) : Int) := by omega
   have ek : (k : Int) - (i : Int) = ((k - i : Nat) : Int) := by omega
   simp only [toNat_nat, cs_get, ed, ek, fL_get (show i < dimL m L + 1 by omega)]
   rw [choose_nat (by omega) (by omega)]
   simp only [Option.bind_some]
   have b1 := hP_le h8 L (show k ≤ dimL m L by omega) hi'
   have b2 := hpart_le h8 L (show k ≤ dimL m L by omega) (show i ≤ k + 1 by omega)
   have b3 : (i : Int) * 17920 ≤ 9 * 17920 := Int.mul_le_mul_of_nonneg_right (by omega) (by omega)
   have e2 : ((k - i : Nat) : Int).tmod 2 = (((k - i) % 2 : Nat) : Int) := tmod_two _
   have keep : ∀ w : Int, w = hT m L k i → (k < k + 1 + 0) → (u.set k (sumN i (hT m L k) + w)).length = dimL m L + 1 ∧ (u.set k (sumN i (hT m L k) + w)).getD k 0 = sumN (i + 1) (hT m L k) ∧ ∀ j, j < dimL m L + 1 → j ≠ k → (u.set k (sumN i (hT m L k) + w)).getD j 0 = if j < k then hN m L j else 0 := fun w hw _ => by
    refine ⟨by simp [u1], by rw [set_getD _ (by omega), if_pos rfl, hw]; rfl, fun j hj hne => by rw [set_getD _ (by omega), if_neg hne]; exact u3 j hj hne⟩
   simp only [u2, e2]
   generalize hP : ((fN m L i : Nat) : Int) * (bin (dimL m L - i) (k - i) : Nat) = p at *
   refine gChk (by omega) (gChk (by omega) (gChk (by omega) (gIte (fun q => gChk (by omega) (gChk (by omega) (gSome ⟨by omega, by simp, ?_⟩))) fun q => gChk (by omega) (gSome ⟨by omega, by simp, ?_⟩))))
   ·exact keep (-p) (by unfold hT sg; rw [hP, if_neg (by omega)]; omega) (by omega)
   ·exact keep p (by unfold hT sg; rw [hP, if_pos (by omega)]; omega) (by omega)
  ·have e : i = k + 1 := by omega
   subst e
   by_cases c : j = k
   ·subst c; rw [if_pos (by omega), u2]; rfl
   ·rw [u3 j hj c]
    by_cases c2 : j < k
    ·rw [if_pos c2, if_pos (by omega)]
    ·rw [if_neg c2, if_neg (by omega)]
 ·have e : k = dimL m L + 1 := by omega
  subst e
  refine list_ext_getD (by rw [i1, hL_len]) fun j hj => ?_
  rw [i1] at hj
  rw [i2 j hj, if_pos hj, hL_get hj]
theorem Cx.f_zero {m : Nat} {L : List Nat} (h : Cx m L) : fN m L 0 = 1 := by
 have hpos : 0 < 2 ^ m := Nat.pow_pos (by omega)
 have key : ∀ s, s < 2 ^ m → cnt m s = 0 → s = 0 := fun s hs hc => by
  rcases Nat.decEq s 0 with c | c
  ·obtain ⟨i, hi⟩ := exists_bit c
   have := cnt_pos hs hi; omega
  ·exact c
 have hf : Face L 0 := by
  cases hL : L with
  | nil => exact absurd hL h.ne
  | cons f r => exact ⟨f, by simp, inc_zero f⟩
 have e : ((fN m L 0 : Nat) : Int) = 1 := by
  unfold fN facesL
  rw [List.countP_filter, ← sumN_countP', sumN_congr (h := fun s => if s = 0 then (1 : Int) else 0) fun s hs => ?_, sumN_single _ _ _ hpos]
  by_cases c : s = 0
  ·subst c; rw [if_pos (by simp [cnt_zero, hf]), if_pos rfl]
  ·rw [if_neg (by simp only [Bool.and_eq_true, decide_eq_true_eq]; exact fun q => c (key s hs q.1)), if_neg c]
 omega
where
 sumN_countP' (p : Nat → Bool) : ∀ n, sumN n (fun s => if p s = true then 1 else 0) = (((List.range n).countP p : Nat) : Int)
 | 0 => rfl
 | n + 1 => by
  simp only [sumN]
  rw [sumN_countP' p n, List.range_succ, List.countP_append, List.countP_cons, List.countP_nil]
  cases p n <;> simp
theorem sortS {m : Nat} (h8 : m ≤ 8) (N : List Nat) (hlt : ∀ s, s ∈ N → s < 2 ^ m) (hnd : N.Nodup) : ∃ K, sortL (cs N) = cs K ∧ Fam m K ∧ ∀ s, s ∈ K ↔ s ∈ N := by
  have hperm : (sortL (cs N)).Perm (cs N) := List.mergeSort_perm _ _
  have hso : (sortL (cs N)).Pairwise (· ≤ ·) := by
    have := List.pairwise_mergeSort (le := fun x y : Int => decide (x ≤ y)) (fun a b c h1 h2 => by simp only [decide_eq_true_eq] at *; omega) (fun a b => by simp only [Bool.or_eq_true, decide_eq_true_eq]; omega) (cs N)
    exact this.imp fun h => of_decide_eq_true h
  have hnd2 : (sortL (cs N)).Nodup := hperm.nodup_iff.2 (List.pairwise_map.2 (hnd.imp fun h e => h (Int.ofNat.inj e)))
  have hri : (sortL (cs N)).Pairwise (· < ·) := (hso.and hnd2).imp fun h => by have := h.1; have := h.2; omega
  have hmem : ∀ y, y ∈ sortL (cs N) ↔ y ∈ cs N := fun y => hperm.mem_iff
  generalize sortL (cs N) = Z at *
  have hcs : Z = cs (Z.map Int.toNat) := cs_of fun k hk => by
    have : Z.getD k 0 ∈ Z := by rw [List.getD_eq_getElem?_getD, List.getElem?_eq_getElem hk]; exact List.getElem_mem hk
    obtain ⟨a, _, e⟩ := List.mem_map.1 (show Z.getD k 0 ∈ N.map Nat.cast from (hmem _).1 this)
    omega
  have hK : ∀ s : Nat, s ∈ Z.map Int.toNat ↔ s ∈ N := fun s => by rw [← cs_mem, ← hcs, hmem, cs_mem]
  refine ⟨Z.map Int.toNat, hcs, ⟨h8, fun s hs => hlt s ((hK s).1 hs), fun i j hij hj => ?_⟩, hK⟩
  rw [List.pairwise_iff_getElem] at hri
  have hj' : j < Z.length := by simpa using hj
  have h1 := hri i j (by omega) hj' hij
  have g : ∀ k (hk : k < Z.length), ((Z.map Int.toNat).getD k 0 : Int) = Z[k] := fun k hk => by
    have := cs_get (Z.map Int.toNat) k
    rw [← hcs] at this
    rw [← this, List.getD_eq_getElem?_getD, List.getElem?_eq_getElem hk]; rfl
  have h2 := g i (by omega)
  have h3 := g j hj'
  omega
theorem Fam.nodup {m : Nat} {L : List Nat} (h : Fam m L) : L.Nodup := by
 unfold List.Nodup
 rw [List.pairwise_iff_getElem]
 intro i j hi hj hij
 have := h.rise i j hij hj
 simp [List.getD_eq_getElem?_getD, List.getElem?_eq_getElem hi, List.getElem?_eq_getElem hj] at this
 omega
/-- A shelling: each facet meets the former ones in sets that lie in such as lack one element. -/
def Shell (m : Nat) (O : List Nat) : Prop := ∀ i, i < O.length → ∀ j, j < i → ∃ k, k < i ∧ cnt m (O.getD i 0 &&& O.getD k 0) + 1 = cnt m (O.getD i 0) ∧ Inc (O.getD i 0 &&& O.getD j 0) (O.getD k 0)
/-- The restriction of a facet. -/
def IsRes (O : List Nat) (i R : Nat) : Prop := ∀ x, R.testBit x = true ↔ (O.getD i 0).testBit x = true ∧ ∃ j, j < i ∧ O.getD j 0 &&& O.getD i 0 = dif (O.getD i 0) (2 ^ x)
theorem IsRes.inc {O : List Nat} {i R : Nat} (h : IsRes O i R) : Inc R (O.getD i 0) := fun x hx => ((h x).1 hx).1
theorem shell_first {O : List Nat} {i s R : Nat} (hR : IsRes O i R) (hs : Inc s (O.getD i 0)) (hn : ∀ j, j < i → ¬ Inc s (O.getD j 0)) : Inc R s := by
 intro x hx
 obtain ⟨h1, j, hj, he⟩ := (hR x).1 hx
 cases q : s.testBit x
 ·exfalso
  refine hn j hj fun y hy => ?_
  have h2 := hs y hy
  have h3 : (dif (O.getD i 0) (2 ^ x)).testBit y = true := by
   rw [testBit_dif, h2, testBit_pow]
   by_cases e : x = y
   ·subst e; rw [q] at hy; cases hy
   ·simp [e]
  rw [← he, Nat.testBit_and, Bool.and_eq_true] at h3
  exact h3.1
 ·rfl
theorem shell_only {m : Nat} {O : List Nat} {i j s R : Nat} (hlt : O.getD i 0 < 2 ^ m) (h : Shell m O) (hi : i < O.length) (hj : j < i) (hR : IsRes O i R) (hs : Inc s (O.getD i 0)) (hr : Inc R s) : ¬ Inc s (O.getD j 0) := by
 intro hsj
 obtain ⟨k, hk, hc, hin⟩ := h i hi j hj
 have hnot : ¬ Inc (O.getD i 0) (O.getD k 0) := fun q => by
  have := (sub_iff_and _ _).2 q
  rw [this] at hc; omega
 obtain ⟨x, x1, x2⟩ := not_inc hnot
 have hx := cnt_dif hlt x1
 have hI : Inc (O.getD i 0 &&& O.getD k 0) (dif (O.getD i 0) (2 ^ x)) := fun y hy => by
  rw [Nat.testBit_and, Bool.and_eq_true] at hy
  rw [testBit_dif, hy.1, testBit_pow]
  by_cases e : x = y
  ·subst e; rw [x2] at hy; cases hy.2
  ·simp [e]
 have he := inc_eq_of_cnt hI (dif_lt hlt) (by omega)
 have hxR : R.testBit x = true := (hR x).2 ⟨x1, k, hk, by rw [Nat.and_comm]; exact he⟩
 have hxs := hr x hxR
 have := hin x (by rw [Nat.testBit_and, x1, hsj x hxs]; rfl)
 rw [x2] at this; cases this
theorem least_of {P : Nat → Prop} : ∀ n, P n → ∃ k, k ≤ n ∧ P k ∧ ∀ j, j < k → ¬ P j := by
 intro n
 induction n using Nat.strongRecOn with
 | ind n ih =>
  intro hn
  rcases Classical.em (∃ j, j < n ∧ P j) with ⟨j, h1, h2⟩ | q
  ·obtain ⟨k, k1, k2, k3⟩ := ih j h1 h2
   exact ⟨k, by omega, k2, k3⟩
  ·exact ⟨n, Nat.le_refl _, hn, fun j hj hp => q ⟨j, hj, hp⟩⟩
def betB : Nat → Nat → Nat → Nat → Bool
 | 0, _, _, _ => true
 | m + 1, R, F, s => betB m R F s && (!R.testBit m || s.testBit m) && (!s.testBit m || F.testBit m)
theorem betB_iff {R F s : Nat} : ∀ m, betB m R F s = true ↔ ∀ x, x < m → (R.testBit x = true → s.testBit x = true) ∧ (s.testBit x = true → F.testBit x = true)
 | 0 => by simp [betB]
 | m + 1 => by
  simp only [betB, Bool.and_eq_true, Bool.or_eq_true, Bool.not_eq_true']
  rw [betB_iff m]
  constructor
  ·rintro ⟨⟨h1, h2⟩, h3⟩ x hx
   rcases Nat.lt_succ_iff_lt_or_eq.1 hx with c | rfl
   ·exact h1 x c
   ·exact ⟨fun q => by rcases h2 with h2 | h2 <;> simp_all, fun q => by rcases h3 with h3 | h3 <;> simp_all⟩
  ·intro h
   refine ⟨⟨fun x hx => h x (by omega), ?_⟩, ?_⟩
   ·cases q : R.testBit m
    ·exact .inl rfl
    ·exact .inr ((h m (by omega)).1 q)
   ·cases q : s.testBit m
    ·exact .inl rfl
    ·exact .inr ((h m (by omega)).2 q)
theorem betB_add {m R F s : Nat} (hs : s < 2 ^ m) : betB m R F (2 ^ m + s) = betB m R F s := by
 rw [Bool.eq_iff_iff, betB_iff, betB_iff]
 have e : ∀ x, x < m → (2 ^ m + s).testBit x = s.testBit x := fun x hx => by
  rw [add_bit hs]
  have : decide (x = m) = false := by simp; omega
  rw [this, Bool.false_or]
 constructor
 ·intro h x hx; have := h x hx; rw [e x hx] at this; exact this
 ·intro h x hx; rw [e x hx]; exact h x hx
theorem cnt_addp {m s : Nat} (hs : s < 2 ^ m) : cnt m (2 ^ m + s) = cnt m s := cnt_congr fun x hx => by
 rw [add_bit hs]
 have : decide (x = m) = false := by simp; omega
 rw [this, Bool.false_or]
def cB (m R F i : Nat) : Int := sumN (2 ^ m) fun s => if betB m R F s = true ∧ cnt m s = i then 1 else 0
theorem cB_succ (m R F i : Nat) : cB (m + 1) R F i = (if R.testBit m = true then 0 else cB m R F i) + (if F.testBit m = true then (if i = 0 then 0 else cB m R F (i - 1)) else 0) := by
 unfold cB
 rw [sumN_two]
 congr 1
 ·by_cases hR : R.testBit m = true
  ·rw [if_pos hR, sumN_congr (h := fun _ => (0 : Int)) fun s hs => ?_, sumN_zero]
   rw [if_neg]
   simp only [betB, cnt, bit_ge hs (Nat.le_refl m), hR]
   simp
  ·rw [if_neg hR]
   refine sumN_congr fun s hs => ?_
   simp only [betB, cnt, bit_ge hs (Nat.le_refl m), hR]
   simp
 ·by_cases hF : F.testBit m = true
  ·rw [if_pos hF]
   have eb : ∀ s, s < 2 ^ m → (2 ^ m + s).testBit m = true := fun s hs => by rw [add_bit hs]; simp
   by_cases h0 : i = 0
   ·rw [if_pos h0, sumN_congr (h := fun _ => (0 : Int)) fun s hs => ?_, sumN_zero]
    rw [if_neg]
    simp only [cnt, eb s hs, h0]
    simp
   ·rw [if_neg h0]
    refine sumN_congr fun s hs => ?_
    simp only [betB, cnt, betB_add hs, cnt_addp hs, eb s hs, hF]
    simp only [Bool.not_true, Bool.or_true, Bool.and_true, if_pos]
    by_cases q : betB m R F s = true ∧ cnt m s = i - 1
    ·rw [if_pos q, if_pos ⟨q.1, by omega⟩]
    ·rw [if_neg q, if_neg fun q2 => q ⟨q2.1, by have := q2.2; omega⟩]
  ·rw [if_neg hF, sumN_congr (h := fun _ => (0 : Int)) fun s hs => ?_, sumN_zero]
   have eb : (2 ^ m + s).testBit m = true := by rw [add_bit hs]; simp
   rw [if_neg]
   simp only [betB, eb, hF]
   simp
def gB (a b i : Nat) : Nat := if a ≤ i then bin (b - a) (i - a) else 0
theorem bin_zero (n : Nat) : bin n 0 = 1 := by cases n <;> rfl
theorem cB_val : ∀ (m R F i : Nat), (∀ x, x < m → R.testBit x = true → F.testBit x = true) → cB m R F i = ((gB (cnt m R) (cnt m F) i : Nat) : Int)
 | 0, R, F, i, _ => by
  unfold cB gB
  simp only [cnt, Nat.pow_zero, sumN, betB]
  cases i <;> simp [bin]
 | m + 1, R, F, i, h => by
  have ih := fun i => cB_val m R F i fun x hx => h x (by omega)
  have hle : cnt m R ≤ cnt m F := cnt_mono fun x hx q => h x (by omega) q
  rw [cB_succ, ih, ih]
  simp only [cnt]
  by_cases hR : R.testBit m = true
  ·have hF := h m (by omega) hR
   rw [if_pos hR, if_pos hF, if_pos hR, if_pos hF]
   unfold gB
   by_cases h0 : i = 0
   ·rw [if_pos h0, if_neg (by omega)]; rfl
   ·rw [if_neg h0]
    by_cases c : cnt m R ≤ i - 1
    ·rw [if_pos c, if_pos (by omega), show cnt m F + 1 - (cnt m R + 1) = cnt m F - cnt m R by omega, show i - (cnt m R + 1) = i - 1 - cnt m R by omega]; simp
    ·rw [if_neg c, if_neg (by omega)]; rfl
  ·rw [if_neg hR, if_neg hR]
   by_cases hF : F.testBit m = true
   ·rw [if_pos hF, if_pos hF]
    unfold gB
    by_cases h0 : i = 0
    ·rw [if_pos h0]
     by_cases c : cnt m R ≤ i
     ·rw [if_pos c, if_pos (by omega), show i - cnt m R = 0 by omega, show i - (cnt m R + 0) = 0 by omega, bin_zero, bin_zero]; rfl
     ·rw [if_neg c, if_neg (by omega)]; rfl
    ·rw [if_neg h0]
     by_cases c : cnt m R ≤ i - 1
     ·rw [if_pos c, if_pos (by omega), if_pos (by omega), show cnt m F + 1 - (cnt m R + 0) = (cnt m F - cnt m R) + 1 by omega, show i - (cnt m R + 0) = (i - 1 - cnt m R) + 1 by omega, show i - cnt m R = (i - 1 - cnt m R) + 1 by omega]
      simp only [bin]; omega
     ·rw [if_neg c]
      by_cases c2 : cnt m R ≤ i
      ·rw [if_pos c2, if_pos (by omega), show i - cnt m R = 0 by omega, show i - (cnt m R + 0) = 0 by omega, bin_zero, bin_zero]; rfl
      ·rw [if_neg c2, if_neg (by omega)]; rfl
   ·rw [if_neg hF, if_neg hF]; simp
theorem bin_inv : ∀ d j k : Fin 9, j.val ≤ d.val → k.val ≤ d.val → sumN (k.val + 1) (fun i => sg (k.val - i) * ((gB j.val d.val i : Nat) * (bin (d.val - i) (k.val - i) : Nat))) = if j.val = k.val then 1 else 0 := of_decide_eq_true (by kernel_rfl)
theorem fN_sum (m : Nat) (L : List Nat) (i : Nat) : ((fN m L i : Nat) : Int) = sumN (2 ^ m) (fun s => if cnt m s = i ∧ Face L s then 1 else 0) := by
 unfold fN facesL
 rw [List.countP_filter, ← Cx.f_zero.sumN_countP']
 refine sumN_congr fun s _ => ?_
 by_cases q : cnt m s = i ∧ Face L s
 ·rw [if_pos q, if_pos (by simp [q])]
 ·rw [if_neg q, if_neg (by simpa using fun a b => q ⟨a, b⟩)]
theorem shell_once {m : Nat} {L O : List Nat} (hp : O.Perm L) (hlt : ∀ s, s ∈ L → s < 2 ^ m) (hS : Shell m O) {R : Nat → Nat} (hR : ∀ i, i < O.length → IsRes O i (R i)) {s : Nat} (hf : Face L s) :
  ∃ t0, t0 < O.length ∧ ∀ t, t < O.length → (Inc (R t) s ∧ Inc s (O.getD t 0) ↔ t = t0) := by
 obtain ⟨f, f1, f2⟩ := hf
 obtain ⟨n, n1, rfl⟩ := mem_getD.1 (hp.mem_iff.2 f1)
 obtain ⟨t0, t1, t2, t3⟩ := least_of (P := fun t => Inc s (O.getD t 0)) n f2
 refine ⟨t0, by omega, fun t ht => ⟨fun ⟨h1, h2⟩ => ?_, fun e => ?_⟩⟩
 ·rcases Nat.lt_or_ge t t0 with c | c
  ·exact absurd h2 (t3 t c)
  ·rcases Nat.lt_or_ge t0 t with c2 | c2
   ·exact absurd t2 (shell_only (hlt _ (hp.mem_iff.1 (mem_getD.2 ⟨t, ht, rfl⟩))) hS ht c2 (hR t ht) h2 h1)
   ·omega
 ·subst e
  exact ⟨shell_first (hR t ht) t2 t3, t2⟩
theorem h_shell {m : Nat} {L O : List Nat} (h8 : m ≤ 8) (hlt : ∀ s, s ∈ L → s < 2 ^ m) (hp : O.Perm L) (hpu : ∀ s, s ∈ L → cnt m s = dimL m L) (hS : Shell m O) {R : Nat → Nat} (hR : ∀ i, i < O.length → IsRes O i (R i)) {k : Nat} (hk : k ≤ dimL m L) :
  hN m L k = sumN O.length (fun t => if cnt m (R t) = k then 1 else 0) := by
 have hd := dim_le m L
 have hF : ∀ t, t < O.length → O.getD t 0 ∈ L := fun t ht => hp.mem_iff.1 (mem_getD.2 ⟨t, ht, rfl⟩)
 have hf : ∀ i, ((fN m L i : Nat) : Int) = sumN O.length (fun t => ((gB (cnt m (R t)) (dimL m L) i : Nat) : Int)) := fun i => by
  rw [fN_sum]
  have e1 : ∀ t, t < O.length → ((gB (cnt m (R t)) (dimL m L) i : Nat) : Int) = sumN (2 ^ m) (fun s => if (Inc (R t) s ∧ Inc s (O.getD t 0)) ∧ cnt m s = i then 1 else 0) := fun t ht => by
   have h1 := hF t ht
   rw [← hpu _ h1, ← cB_val m (R t) (O.getD t 0) i fun x _ q => (hR t ht).inc x q]
   refine sumN_congr fun s hs => ?_
   have hRlt : R t < 2 ^ m := (hR t ht).inc.lt (hlt _ h1)
   have key : betB m (R t) (O.getD t 0) s = true ↔ Inc (R t) s ∧ Inc s (O.getD t 0) := by
    rw [betB_iff]
    exact ⟨fun q => ⟨fun x hx => (q x (bit_lt hRlt hx)).1 hx, fun x hx => (q x (bit_lt hs hx)).2 hx⟩, fun q x _ => ⟨q.1 x, q.2 x⟩⟩
   by_cases q : betB m (R t) (O.getD t 0) s = true ∧ cnt m s = i
   ·rw [if_pos q, if_pos ⟨key.1 q.1, q.2⟩]
   ·rw [if_neg q, if_neg fun q2 => q ⟨key.2 q2.1, q2.2⟩]
  rw [sumN_congr e1, sumN_swap]
  refine sumN_congr fun s hs => ?_
  by_cases q : cnt m s = i ∧ Face L s
  ·obtain ⟨t0, t1, t2⟩ := shell_once hp hlt hS hR q.2
   rw [if_pos q, sumN_congr (h := fun t => if t = t0 then (1 : Int) else 0) fun t ht => ?_, sumN_single _ _ _ t1]
   by_cases e : t = t0
   ·rw [if_pos ⟨(t2 t ht).2 e, q.1⟩, if_pos e]
   ·rw [if_neg fun z => e ((t2 t ht).1 z.1), if_neg e]
  ·rw [if_neg q, sumN_congr (h := fun _ => (0 : Int)) fun t ht => ?_, sumN_zero]
   exact if_neg fun z => q ⟨z.2, _, hF t ht, z.1.2⟩
 unfold hN
 have e2 : ∀ i, i < k + 1 → hT m L k i = sumN O.length (fun t => sg (k - i) * ((gB (cnt m (R t)) (dimL m L) i : Nat) * (bin (dimL m L - i) (k - i) : Nat))) := fun i hi => by
  unfold hT
  rw [hf i, sumN_mul]
  congr 1
  rw [Int.mul_comm, ← sumN_mul]
  exact sumN_congr fun t _ => Int.mul_comm _ _
 rw [sumN_congr e2, sumN_swap]
 refine sumN_congr fun t ht => ?_
 have hc : cnt m (R t) ≤ dimL m L := by
  have := cnt_le_of_inc (m := m) (hR t ht).inc
  rw [hpu _ (hF t ht)] at this
  exact this
 exact bin_inv ⟨dimL m L, by omega⟩ ⟨cnt m (R t), by omega⟩ ⟨k, by omega⟩ hc hk
theorem EqualI_spec (s1 s2 : List Int) : Gets (slices_Equal_int_int s1 s2) (fun r => r = true ↔ s1 = s2) := by
 unfold slices_Equal_int_int
 refine gIte (fun q => gSome ⟨fun h => by simp at h, fun e => absurd (by rw [e]) q⟩) fun q => ?_
 have hl : s1.length = s2.length := by omega
 refine gBind (R := fun z => match z with | .inl _ => s1 = s2 | .inr r => r = false ∧ s1 ≠ s2)
  (gFor s1.length (fun k v => v = (k : Int) ∧ ∀ j, j < k → s1.getD j 0 = s2.getD j 0) (Nat.zero_le _) ⟨rfl, fun j hj => absurd hj (Nat.not_lt_zero j)⟩ ?_) ?_
 ·rintro k _ hk ⟨rfl, hb⟩
  simp only [toNat_nat]
  refine gIte (fun h1 => gChk (by omega) (gIte (fun q2 => gSome ⟨rfl, fun e => q2 (by rw [e])⟩) fun q2 => gSome ⟨by omega, by simp, fun j hj => ?_⟩)) fun h1 => gSome (list_ext_getD hl fun j hj => hb j (by omega))
  rcases Nat.lt_succ_iff_lt_or_eq.1 hj with c | rfl
  ·exact hb j c
  ·exact Classical.not_not.1 q2
 ·rintro (u | rr) hz
  ·exact gSome ⟨fun _ => hz, fun _ => rfl⟩
  ·obtain ⟨rfl, hz⟩ := hz
   exact gSome ⟨fun h => by simp at h, fun e => absurd e hz⟩
/-- A complex, all of whose facets are of one size, and its facets in an order. -/
structure Shv (m : Nat) (L O : List Nat) : Prop where
 cx : Cx m L
 perm : O.Perm L
 pure : ∀ s, s ∈ L → cnt m s = dimL m L
theorem Shv.lt {m : Nat} {L O : List Nat} (h : Shv m L O) {t : Nat} (ht : t < O.length) : O.getD t 0 ∈ L ∧ O.getD t 0 < 2 ^ m := by
 have := h.perm.mem_iff.1 (mem_getD.2 ⟨t, ht, rfl⟩)
 exact ⟨this, h.cx.lt _ this⟩
theorem cs_takeS (L : List Nat) (k : Nat) : (cs L).take k = cs (L.take k) := by simp [cs, List.map_take]
theorem take_getD {O : List Nat} {i j : Nat} (h : j < i) : (O.take i).getD j 0 = O.getD j 0 := by
 rw [List.getD_eq_getElem?_getD, List.getD_eq_getElem?_getD, List.getElem?_take, if_pos h]
theorem and_lt8 {m a b : Nat} (h8 : m ≤ 8) (h : a < 2 ^ m) : a &&& b < 2 ^ m := Inc.lt (inc_and_l a b) h
theorem sort_perm {a2 : List Int} {L : List Nat} (h : sortL a2 = cs L) : ∃ O, a2 = cs O ∧ O.Perm L := by
 have hp : (sortL a2).Perm a2 := List.mergeSort_perm _ _
 rw [h] at hp
 have hcs : a2 = cs (a2.map Int.toNat) := cs_of fun k hk => by
  have : a2.getD k 0 ∈ a2 := by rw [List.getD_eq_getElem?_getD, List.getElem?_eq_getElem hk]; exact List.getElem_mem hk
  obtain ⟨a, _, e⟩ := List.mem_map.1 (show a2.getD k 0 ∈ L.map Nat.cast from hp.symm.mem_iff.1 this)
  omega
 refine ⟨a2.map Int.toNat, hcs, ?_⟩
 have h2 := hp.map Int.toNat
 have e : (cs L).map Int.toNat = L := by
  unfold cs
  rw [List.map_map]
  simp [Function.comp_def]
 rw [e] at h2
 exact h2.symm
theorem Shells_spec (n : Int) (a1 a2 : List Int) (h1 : a1.length ≤ 9223372036854775807) (h2 : a2.length ≤ 17592186044416) :
    Gets (complex_Shells n a1 a2) (fun r => (r.2 ≠ 0 ∧ r.1 = false ∧ ¬ ∃ m L O, n = (m : Nat) ∧ a1 = cs L ∧ a2 = cs O ∧ Shv m L O) ∨ (r.2 = 0 ∧ ∃ m L O, n = (m : Nat) ∧ a1 = cs L ∧ a2 = cs O ∧ Shv m L O ∧ (r.1 = true ↔ Shell m O))) := by
  unfold complex_Shells
  refine gBind (complex_Check_spec n a1 h1) ?_
  rintro y (⟨rfl, m, L, rfl, rfl, hC⟩ | ⟨hne, hn⟩)
  rotate_left
  · exact gIte (fun _ => gSome (.inl ⟨hne, rfl, fun ⟨m, L, O, e1, e2, e3, hv⟩ => hn ⟨m, L, e1, e2, hv.cx⟩⟩)) fun q => absurd hne q
  have h8 := hC.m8
  have h256 := pow_le8 h8
  have hlen := hC.len
  have hL0 : 0 < L.length := by
    rcases Nat.eq_zero_or_pos L.length with c | c
    · exact absurd (List.length_eq_zero_iff.1 c) hC.ne
    · exact c
  refine gIte (fun q => absurd rfl q) fun _ => gChk h2 (gChk (by omega) (gBind (EqualI_spec _ _) fun y1 hy1 => gIte (fun q => gSome (.inl ⟨by simp, rfl, fun ⟨m', L', O, e1, e2, e3, hv⟩ => q (hy1.2 ?_)⟩)) fun q => ?_))
  · have d1 : m = m' := Int.ofNat.inj e1
    have d2 := cs_inj e2
    subst d1 d2 e3
    have hnd : O.Nodup := hv.perm.nodup_iff.2 hC.toFam.nodup
    obtain ⟨K, k1, k2, k3⟩ := sortS h8 O (fun s hs => hC.lt s (hv.perm.mem_iff.1 hs)) hnd
    rw [k1, k2.ext hC.toFam fun s => by rw [k3]; exact hv.perm.mem_iff]
  obtain ⟨O, rfl, hp⟩ := sort_perm (hy1.1 (Classical.not_not.1 q))
  have hOl : O.length = L.length := hp.length_eq
  refine gBind (R := fun z => match z with | .inl _ => ∀ k, k < L.length → cnt m (L.getD k 0) = cnt m (L.getD 0 0) | .inr r => (r.2 ≠ 0 ∧ r.1 = false) ∧ ∃ k, k < L.length ∧ cnt m (L.getD k 0) ≠ cnt m (L.getD 0 0))
    (gFor L.length (fun k v => v = (k : Int) ∧ ∀ j, j < k → cnt m (L.getD j 0) = cnt m (L.getD 0 0)) (Nat.zero_le _) ⟨rfl, fun j hj => absurd hj (Nat.not_lt_zero j)⟩ ?_) ?_
  · rintro k _ hk ⟨rfl, hb⟩
    simp only [cs_len, cs_get, toNat_nat]
    refine gIte (fun q1 => gChk (by omega) ?_) fun q1 => gSome fun j hj => hb j (by omega)
    have hk' : k < L.length := by omega
    have b1 := hC.lt _ (mem_getD.2 ⟨k, hk', rfl⟩)
    have b2 := hC.lt _ (mem_getD.2 ⟨0, hL0, rfl⟩)
    refine gBindE (complex_size_nat (by omega)) (gChk (by omega) ?_)
    have e0 : (cs L).getD 0 0 = ((L.getD 0 0 : Nat) : Int) := cs_get L 0
    refine gBindE (complex_size_nat (by omega)) ?_
    rw [size_of_lt b1 h8, size_of_lt b2 h8]
    refine gIte (fun q2 => gSome ⟨⟨by simp, rfl⟩, k, hk', by omega⟩) fun q2 => gSome ⟨hk', by simp, fun j hj => ?_⟩
    rcases Nat.lt_succ_iff_lt_or_eq.1 hj with c | rfl
    · exact hb j c
    · omega
  rintro (u | rr) hz
  rotate_left
  · obtain ⟨hz, k, k1, k2⟩ := hz
    refine gSome (.inl ⟨hz.1, hz.2, fun ⟨m', L', O', e1, e2, e3, hv⟩ => k2 ?_⟩)
    have d1 : m = m' := Int.ofNat.inj e1
    have d2 := cs_inj e2
    subst d1 d2
    rw [hv.pure _ (mem_getD.2 ⟨k, k1, rfl⟩), hv.pure _ (mem_getD.2 ⟨0, hL0, rfl⟩)]
  have hpu : ∀ s, s ∈ L → cnt m s = dimL m L := fun s hs => by
    have hall : ∀ s, s ∈ L → cnt m s = cnt m (L.getD 0 0) := fun s hs => by
      obtain ⟨k, k1, rfl⟩ := mem_getD.1 hs
      exact hz k k1
    have a1 := cnt_le_dim (m := m) hs
    have a2 : dimL m L ≤ cnt m (L.getD 0 0) := (foldl_max_le (f := cnt m)).2 ⟨by omega, fun f hf => Nat.le_of_eq (hall f hf)⟩
    have := hall s hs
    omega
  have hv : Shv m L O := ⟨hC, hp, hpu⟩
  refine gBind (R := fun z => match z with | .inl _ => Shell m O | .inr r => r = (false, 0) ∧ ¬ Shell m O)
    (gFor O.length (fun i v => v = (i : Int) ∧ ∀ i', i' < i → ∀ j, j < i' → ∃ k, k < i' ∧ cnt m (O.getD i' 0 &&& O.getD k 0) + 1 = cnt m (O.getD i' 0) ∧ Inc (O.getD i' 0 &&& O.getD j 0) (O.getD k 0)) (Nat.zero_le _) ⟨rfl, fun j hj => absurd hj (Nat.not_lt_zero j)⟩ ?_) ?_
  rotate_left
  · rintro (u | rr) hz
    · exact gSome (.inr ⟨rfl, m, L, O, rfl, rfl, rfl, hv, by simpa using hz⟩)
    · obtain ⟨rfl, hz⟩ := hz
      exact gSome (.inr ⟨rfl, m, L, O, rfl, rfl, rfl, hv, by simpa using hz⟩)
  rintro i _ hi ⟨rfl, hb⟩
  simp only [cs_len, cs_get, toNat_nat, cs_takeS]
  refine gIte (fun q1 => ?_) fun q1 => gSome fun i' hi' => hb i' (by omega)
  have hi' : i < O.length := by omega
  have htl : (O.take i).length = i := by rw [List.length_take]; omega
  obtain ⟨f1, f2⟩ := hv.lt hi'
  refine gChk (by omega) (gChk (by omega) ?_)
  refine gBind (R := fun z => match z with | .inl _ => ∀ j, j < i → ∃ k, k < i ∧ cnt m (O.getD i 0 &&& O.getD k 0) + 1 = cnt m (O.getD i 0) ∧ Inc (O.getD i 0 &&& O.getD j 0) (O.getD k 0) | .inr r => r = (false, 0) ∧ ¬ Shell m O)
    (gFor i (fun j v => v = (j : Int) ∧ ∀ j', j' < j → ∃ k, k < i ∧ cnt m (O.getD i 0 &&& O.getD k 0) + 1 = cnt m (O.getD i 0) ∧ Inc (O.getD i 0 &&& O.getD j' 0) (O.getD k 0)) (Nat.zero_le _) ⟨rfl, fun j hj => absurd hj (Nat.not_lt_zero j)⟩ ?_) ?_
  rotate_left
  · rintro (u | rr) hz
    · refine gSome ⟨hi', by simp, fun i' hlt => ?_⟩
      rcases Nat.lt_succ_iff_lt_or_eq.1 hlt with c | rfl
      · exact hb i' c
      · exact hz
    · exact gSome hz
  rintro j _ hj ⟨rfl, hc⟩
  simp only [cs_len, cs_get, toNat_nat, htl]
  refine gIte (fun q2 => ?_) fun q2 => gSome fun j' hj' => hc j' (by omega)
  have hj' : j < i := by omega
  refine gChk (by omega) (gChk (by omega) ?_)
  refine gBind (R := fun r => r = true ↔ ∃ k, k < i ∧ cnt m (O.getD i 0 &&& O.getD k 0) + 1 = cnt m (O.getD i 0) ∧ Inc (O.getD i 0 &&& O.getD j 0) (O.getD k 0))
    (gFor i (fun k (x : Bool × Int) => x.2 = (k : Int) ∧ (x.1 = true ↔ ∃ k', k' < k ∧ cnt m (O.getD i 0 &&& O.getD k' 0) + 1 = cnt m (O.getD i 0) ∧ Inc (O.getD i 0 &&& O.getD j 0) (O.getD k' 0))) (Nat.zero_le _) ⟨rfl, fun h => by simp at h, fun ⟨k', h, _⟩ => absurd h (Nat.not_lt_zero k')⟩ ?_) ?_
  · rintro k ⟨b, _⟩ hk ⟨rfl, hbk⟩
    simp only at hbk ⊢
    simp only [toNat_nat, cs_get]
    refine gIte (fun q3 => ?_) fun q3 => gSome (by have e : k = i := by omega
                                                   subst e; exact hbk)
    have hk' : k < i := by omega
    have i1 : (O.getD i 0 &&& O.getD k 0) < 2 ^ m := and_lt8 h8 f2
    have hs1 : complex_size (iand ((O.getD i 0 : Nat) : Int) ((O.getD k 0 : Nat) : Int)) = some ((cnt m (O.getD i 0 &&& O.getD k 0) : Nat) : Int) := by
      rw [and_nat, complex_size_nat (by omega), size_of_lt i1 h8]
    have hs2 : complex_size ((O.getD i 0 : Nat) : Int) = some ((cnt m (O.getD i 0) : Nat) : Int) := by
      rw [complex_size_nat (by omega), size_of_lt f2 h8]
    have c8 := cnt_le m (O.getD i 0)
    simp only [take_getD hk', take_getD hj']
    refine gChk (by omega) ?_
    rw [hs1, hs2]
    have step : ∀ P : Prop, (P ↔ b = true ∨ (cnt m (O.getD i 0 &&& O.getD k 0) + 1 = cnt m (O.getD i 0) ∧ Inc (O.getD i 0 &&& O.getD j 0) (O.getD k 0))) → (P ↔ ∃ k', k' < k + 1 ∧ cnt m (O.getD i 0 &&& O.getD k' 0) + 1 = cnt m (O.getD i 0) ∧ Inc (O.getD i 0 &&& O.getD j 0) (O.getD k' 0)) := fun P hP => by
      rw [hP, hbk]
      constructor
      · rintro (⟨k', a, b⟩ | h)
        · exact ⟨k', by omega, b⟩
        · exact ⟨k, by omega, h⟩
      · rintro ⟨k', a, h⟩
        rcases Nat.lt_succ_iff_lt_or_eq.1 a with c | rfl
        · exact .inl ⟨k', c, h⟩
        · exact .inr h
    have hdif : iandnot (iand ((O.getD i 0 : Nat) : Int) ((O.getD j 0 : Nat) : Int)) ((O.getD k 0 : Nat) : Int) = 0 ↔ Inc (O.getD i 0 &&& O.getD j 0) (O.getD k 0) := by
      rw [and_nat, dif_nat]
      constructor
      · intro h x hx
        cases q : (O.getD k 0).testBit x
        · have : (dif (O.getD i 0 &&& O.getD j 0) (O.getD k 0)).testBit x = true := by rw [testBit_dif, hx, q]; rfl
          have e0 : dif (O.getD i 0 &&& O.getD j 0) (O.getD k 0) = 0 := by omega
          rw [e0] at this; simp at this
        · rfl
      · intro h
        have : dif (O.getD i 0 &&& O.getD j 0) (O.getD k 0) = 0 := Nat.eq_of_testBit_eq fun x => by
          rw [testBit_dif, Nat.zero_testBit]
          cases q : (O.getD i 0 &&& O.getD j 0).testBit x
          · rfl
          · rw [h x q]; rfl
        omega
    by_cases hbt : b = true
    · refine gBindE (a := 0) (by rw [if_neg (by simp [hbt])]) (gBindE (a := 0) (by rw [if_neg (by simp [hbt])]) (gChk (by omega) (gSome ⟨hk', by simp, ?_⟩)))
      refine step _ ?_
      rw [decide_eq_true_eq]
      simp [hbt]
    · refine gBindE (a := ((cnt m (O.getD i 0 &&& O.getD k 0) : Nat) : Int)) (by rw [if_pos hbt]) (gBindE (a := ((cnt m (O.getD i 0) : Nat) : Int)) (by rw [if_pos hbt]) (gChk (by omega) (gSome ⟨hk', by simp, ?_⟩)))
      refine step _ ?_
      rw [decide_eq_true_eq, hdif]
      constructor
      · rintro (h | ⟨h3, h4⟩)
        · exact absurd h hbt
        · exact .inr ⟨by omega, h4⟩
      · rintro (h | ⟨h3, h4⟩)
        · exact absurd h hbt
        · exact .inr ⟨by omega, h4⟩
  · intro r hr
    refine gIte (fun q3 => gSome ⟨rfl, fun hS => q3 (hr.2 (hS i hi' j hj'))⟩) fun q3 => gSome ⟨hj', by simp, fun j' hlt => ?_⟩
    rcases Nat.lt_succ_iff_lt_or_eq.1 hlt with c | rfl
    · exact hc j' c
    · exact hr.1 (Classical.not_not.1 q3)
end Go.SH
