/-
 Families of sets, least and greatest ones, sizes, binomials (what SetsSperner needs of the elder texts). Conditions: none.
-/
import Derived.Test.YtlpikingpnenkaaSp
import Derived.Test.YtlpikingpnenkaaHK
import Derived.Test.YtlpikingpnenkaaLBg
import Derived.Test.YtlpikingpnenkaaSprotakeep
import Derived.Test.YtlpikingpnenkaaSprotaref
set_option linter.unusedSimpArgs false
set_option linter.unusedVariables false
set_option linter.unusedSectionVars false
namespace Go.SH
open Go Go.AX
/-- How many of the first m elements a set has. -/
def cnt : Nat → Nat → Nat
 | 0, _ => 0
 | m + 1, s => cnt m s + if s.testBit m then 1 else 0
/-- How many elements a set has (of eight). -/
def size (s : Nat) : Nat := cnt 8 s
theorem cnt_le (m s : Nat) : cnt m s ≤ m := by
 induction m with
 | zero => exact Nat.le_refl _
 | succ m ih => simp only [cnt]; split <;> omega
theorem cnt_congr {m s t : Nat} (h : ∀ i, i < m → s.testBit i = t.testBit i) : cnt m s = cnt m t := by
 induction m with
 | zero => rfl
 | succ m ih => simp only [cnt]; rw [ih fun i hi => h i (by omega), h m (by omega)]
theorem cnt_mono {m s t : Nat} (h : ∀ i, i < m → s.testBit i = true → t.testBit i = true) : cnt m s ≤ cnt m t := by
 induction m with
 | zero => exact Nat.le_refl _
 | succ m ih =>
  simp only [cnt]
  have := ih fun i hi => h i (by omega)
  have := h m (by omega)
  split <;> split <;> simp_all <;> omega
theorem testBit_pow (i j : Nat) : (2 ^ i).testBit j = decide (i = j) := Nat.testBit_two_pow
theorem cnt_add {m s : Nat} {i : Nat} (hi : i < m) (h : s.testBit i = false) : cnt m (s ||| 2 ^ i) = cnt m s + 1 := by
 induction m with
 | zero => omega
 | succ m ih =>
  simp only [cnt, Nat.testBit_or, testBit_pow]
  rcases Nat.lt_or_ge i m with q | q
  ·rw [ih q]
   have : decide (i = m) = false := by simp; omega
   rw [this, Bool.or_false]; omega
  ·have : i = m := by omega
   subst this
   have e : cnt i (s ||| 2 ^ i) = cnt i s := cnt_congr fun j hj => by
    rw [Nat.testBit_or, testBit_pow]
    have : decide (i = j) = false := by simp; omega
    rw [this, Bool.or_false]
   rw [e, h]; simp
theorem bit_lt {s m i : Nat} (hs : s < 2 ^ m) (h : s.testBit i = true) : i < m := by
 rcases Nat.lt_or_ge i m with q | q
 ·exact q
 ·have := Nat.testBit_lt_two_pow (i := i) (Nat.lt_of_lt_of_le hs (Nat.pow_le_pow_right (by omega) q))
  rw [this] at h; cases h
theorem bit_ge {s m i : Nat} (hs : s < 2 ^ m) (h : m ≤ i) : s.testBit i = false := by
 cases hb : s.testBit i
 ·rfl
 ·have := bit_lt hs hb; omega
theorem cnt_of_lt {m k s : Nat} (hs : s < 2 ^ m) (hk : m ≤ k) : cnt k s = cnt m s := by
  induction k with
  | zero => have : m = 0 := by omega
            subst this; rfl
  | succ k ih =>
    rcases Nat.lt_or_ge m (k + 1) with q | q
    · simp only [cnt]; rw [ih (by omega), bit_ge hs (by omega)]; simp
    · have : m = k + 1 := by omega
      rw [this]
theorem size_of_lt {m s : Nat} (hs : s < 2 ^ m) (hm : m ≤ 8) : size s = cnt m s := cnt_of_lt hs hm
/-- Within. -/
def Inc (s t : Nat) : Prop := ∀ i, s.testBit i = true → t.testBit i = true
theorem sub_iff_and (s t : Nat) : s &&& t = s ↔ Inc s t := by
 constructor
 ·intro h i hs
  have := congrArg (fun x => Nat.testBit x i) h
  simp only [Nat.testBit_and, hs, Bool.true_and] at this
  exact this
 ·intro h
  apply Nat.eq_of_testBit_eq; intro i
  rw [Nat.testBit_and]
  cases hs : s.testBit i
  ·rfl
  ·rw [h i hs]; rfl
theorem dif_or {c i : Nat} (h1 : c.testBit i = true) : dif c (2 ^ i) ||| 2 ^ i = c := by
 apply Nat.eq_of_testBit_eq; intro j
 rw [Nat.testBit_or, testBit_dif, testBit_pow]
 by_cases e : i = j
 ·subst e; simp [h1]
 ·simp [e]
theorem cnt_dif {m c i : Nat} (hc : c < 2 ^ m) (h1 : c.testBit i = true) : cnt m c = cnt m (dif c (2 ^ i)) + 1 := by
 have := cnt_add (m := m) (s := dif c (2 ^ i)) (bit_lt hc h1) (by rw [testBit_dif, testBit_pow]; simp)
 rwa [dif_or h1] at this
theorem cnt_pos {m c i : Nat} (hc : c < 2 ^ m) (h1 : c.testBit i = true) : 0 < cnt m c := by have := cnt_dif hc h1; omega
theorem bool_ne {b : Bool} (h : ¬ b = true) : b = false := by cases b <;> simp_all
instance instIncDec (a b : Nat) : Decidable (Inc a b) := decidable_of_iff (a &&& b = a) (sub_iff_and a b)
theorem step_all {p : Nat → Prop} {k : Nat} (h1 : ∀ j, j < k → p j) (h2 : p k) : ∀ j, j < k + 1 → p j := fun j hj => by
 rcases Nat.lt_or_ge j k with q | q
 ·exact h1 j q
 ·have : j = k := by omega
  subst this; exact h2
theorem none_all {p : Nat → Prop} : ∀ j, j < 0 → p j := fun j hj => absurd hj (Nat.not_lt_zero j)
/-- A list of sets, as numbers of the program's. -/
def cs (L : List Nat) : List Int := L.map Nat.cast
@[simp] theorem cs_len (L : List Nat) : (cs L).length = L.length := by simp [cs]
theorem cs_get (L : List Nat) (k : Nat) : (cs L).getD k 0 = ((L.getD k 0 : Nat) : Int) := by
 simp only [cs, List.getD_eq_getElem?_getD, List.getElem?_map]
 cases L[k]? <;> simp
theorem cs_app (L : List Nat) (a : Nat) : cs L ++ [(a : Int)] = cs (L ++ [a]) := by simp [cs]
theorem cs_of {l : List Int} (h : ∀ k, k < l.length → 0 ≤ l.getD k 0) : l = cs (l.map Int.toNat) := by
 apply List.ext_getElem? ; intro i
 simp only [cs, List.map_map, List.getElem?_map]
 cases hi : l[i]? with
 | none => rfl
 | some x =>
  have hlt := (List.getElem?_eq_some_iff.1 hi).1
  have := h i hlt
  rw [List.getD_eq_getElem?_getD, hi] at this
  simp only [Option.getD_some] at this
  simp only [Option.map_some, Function.comp_apply, Option.some.injEq]; omega
theorem mem_getD {L : List Nat} {a : Nat} : a ∈ L ↔ ∃ k, k < L.length ∧ L.getD k 0 = a := by
 rw [List.mem_iff_getElem?]
 constructor
 ·rintro ⟨i, hi⟩
  exact ⟨i, (List.getElem?_eq_some_iff.1 hi).1, by rw [List.getD_eq_getElem?_getD, hi]; rfl⟩
 ·rintro ⟨k, h1, h2⟩
  refine ⟨k, ?_⟩
  rw [List.getElem?_eq_getElem h1]
  rw [List.getD_eq_getElem?_getD, List.getElem?_eq_getElem h1] at h2
  exact congrArg some h2
/-- A family: sets of m elements, rising. -/
structure Fam (m : Nat) (L : List Nat) : Prop where
 m8 : m ≤ 8
 lt : ∀ s, s ∈ L → s < 2 ^ m
 rise : ∀ i j, i < j → j < L.length → L.getD i 0 < L.getD j 0
theorem Fam.ge {m : Nat} {L : List Nat} (h : Fam m L) : ∀ k, k < L.length → k ≤ L.getD k 0 := fun k => by
 induction k with
 | zero => intro _; exact Nat.zero_le _
 | succ k ih => intro hk; have := ih (by omega); have := h.rise k (k + 1) (by omega) hk; omega
theorem Fam.len {m : Nat} {L : List Nat} (h : Fam m L) : L.length ≤ 256 := by
 rcases Nat.eq_zero_or_pos L.length with q | q
 ·omega
 ·have h1 := h.ge (L.length - 1) (by omega)
  have h2 := h.lt _ (mem_getD.2 ⟨L.length - 1, by omega, rfl⟩)
  have := pow_le8 h.m8
  omega
theorem sets_Family_spec (n : Int) (l : List Int) (hl : l.length ≤ 9223372036854775807) : Gets (sets_Family n l) (fun r => (r = 0 ∧ ∃ m L, n = (m : Nat) ∧ l = cs L ∧ Fam m L) ∨ (r = 1 ∧ ¬ ∃ m L, n = (m : Nat) ∧ l = cs L ∧ Fam m L)) := by
 unfold sets_Family
 refine gIte (fun h => gSome (.inr ⟨rfl, ?_⟩)) fun h => ?_
 ·rintro ⟨m, L, rfl, rfl, hf⟩
  have := hf.m8; omega
 ·obtain ⟨m, rfl⟩ := Int.eq_ofNat_of_zero_le (show 0 ≤ n by omega)
  refine gBind (R := fun z => match z with | .inl _ => ∀ k, k < l.length → 0 ≤ l.getD k 0 ∧ l.getD k 0 < ((2 ^ m : Nat) : Int) ∧ (0 < k → l.getD (k - 1) 0 < l.getD k 0) | .inr r => r = 1 ∧ ¬ ∀ k, k < l.length → 0 ≤ l.getD k 0 ∧ l.getD k 0 < ((2 ^ m : Nat) : Int) ∧ (0 < k → l.getD (k - 1) 0 < l.getD k 0))
   (gFor l.length (fun k v => v = (k : Int) ∧ ∀ j, j < k → 0 ≤ l.getD j 0 ∧ l.getD j 0 < ((2 ^ m : Nat) : Int) ∧ (0 < j → l.getD (j - 1) 0 < l.getD j 0)) (Nat.zero_le _) ⟨rfl, none_all⟩ ?_) ?_
  ·rintro k _ hk ⟨rfl, hb⟩
   refine gIte (fun h1 => gChk (by omega) ?_) fun h1 => gSome fun j hj => hb j (by omega)
   have e : ((k : Int) - 1).toNat = k - 1 := by omega
   simp only [toNat_nat, shl_nat', e]
   refine gChk (by omega) (gIte (fun h2 => gSome ⟨rfl, fun h3 => ?_⟩) fun h2 => gSome ⟨by omega, by simp, step_all hb (by omega)⟩)
   have := h3 k (by omega)
   omega
  ·rintro (u | rr) hz
   ·refine gSome (.inl ⟨rfl, m, l.map Int.toNat, rfl, cs_of fun k hk => (hz k hk).1, by omega, fun s hs => ?_, fun i j hij hj => ?_⟩)
    ·obtain ⟨k, h1, h2⟩ := mem_getD.1 hs
     rw [cs_of fun k hk => (hz k hk).1] at hz
     have := (hz k (by simpa using h1)).2.1
     rw [cs_get, h2] at this; omega
    ·have hcs := cs_of fun k hk => (hz k hk).1
     have key : ∀ d i, i + d + 1 < l.length → l.getD i 0 < l.getD (i + d + 1) 0 := fun d => by
      induction d with
      | zero => intro i hi; exact (hz (i + 1) hi).2.2 (by omega)
      | succ d ih => intro i hi; have := ih i (by omega); have := (hz (i + (d + 1) + 1) hi).2.2 (by omega); rw [show i + (d + 1) + 1 - 1 = i + d + 1 by omega] at this; omega
     have := key (j - i - 1) i (by simp at hj; omega)
     rw [show i + (j - i - 1) + 1 = j by omega, hcs, cs_get, cs_get] at this
     omega
   ·refine gSome (.inr ⟨hz.1, ?_⟩)
    rintro ⟨m', L, he, rfl, hf⟩
    have : m' = m := by omega
    subst this
    refine hz.2 fun k hk => ?_
    rw [cs_len] at hk
    rw [cs_get, cs_get]
    have h1 := hf.lt _ (mem_getD.2 ⟨k, hk, rfl⟩)
    refine ⟨by omega, by omega, fun h0 => ?_⟩
    have := hf.rise (k - 1) k (by omega) hk
    omega
/-- The elements of a set, rising. -/
def els (s : Nat) : List Nat := (List.range 8).filter fun i => s.testBit i
theorem els_len (s : Nat) : (els s).length = size s := by
 unfold els size
 have : ∀ k, ((List.range k).filter fun i => s.testBit i).length = cnt k s := fun k => by
  induction k with
  | zero => rfl
  | succ k ih =>
   rw [List.range_succ, List.filter_append, List.length_append, ih]
   simp only [cnt]
   cases hb : s.testBit k <;> simp [hb]
 exact this 8
theorem list_extI {a b : List Int} (hl : a.length = b.length) (h : ∀ i, i < a.length → a.getD i 0 = b.getD i 0) : a = b :=
 List.ext_getElem hl fun i h1 h2 => by
  have := h i h1
  rw [List.getD_eq_getElem?_getD, List.getD_eq_getElem?_getD, List.getElem?_eq_getElem h1, List.getElem?_eq_getElem h2] at this
  exact this
theorem Same_spec (a b : List Int) : rotalaw_Same_int a b = some (decide (a = b)) := by
 refine Gets.eq ?_
 unfold rotalaw_Same_int
 refine gIte (fun q => gSome ?_) fun q => ?_
 ·have : a ≠ b := fun e => q (by rw [e])
  simp [this]
 have hl : a.length = b.length := by omega
 refine gBind (R := fun z => match z with | .inl _ => a = b | .inr r => r = false ∧ a ≠ b) (gFor a.length (fun k (x : Int) => x = (k : Int) ∧ ∀ j, j < k → a.getD j 0 = b.getD j 0) (Nat.zero_le _) ⟨rfl, none_all⟩ ?_) ?_
 ·rintro k _ hk ⟨rfl, hI⟩
  simp only [toNat_nat]
  refine gIte (fun h1 => gChk (by omega) (gIte (fun q => gSome ⟨rfl, fun e => q (by rw [e])⟩) fun q => gSome ⟨by omega, by simp, step_all hI (by omega)⟩)) fun h1 => gSome ?_
  refine list_extI hl fun i hi => hI i (by omega)
 ·rintro (u | r) hz
  ·exact gSome (by simp [show a = b from hz])
  ·exact gSome (by rw [hz.1]; simp [hz.2])
theorem rotaref_In_nat (s i : Nat) : rotaref_In s i = some (s.testBit i) := by
 unfold rotaref_In
 rw [chk_pos (by omega)]
 simp only [toNat_nat, shr_nat']
 congr 1
 rw [Nat.testBit_eq_decide_div_mod_eq]
 have : (((s / 2 ^ i : Nat) : Int)).tmod 2 = ((s / 2 ^ i % 2 : Nat) : Int) := tmod_two _
 rw [this]
 rw [Bool.eq_iff_iff, decide_eq_true_eq, decide_eq_true_eq]; omega
theorem rotaref_Elements_nat (s : Nat) : rotaref_Elements s = some (cs (els s)) := by
  refine Gets.eq ?_
  unfold rotaref_Elements
  refine gBind (R := fun o => o = cs (els s)) (gFor 8 (k0 := 0) (fun k x => x.2 = (k : Int) ∧ x.1 = cs ((List.range k).filter fun i => s.testBit i)) (by omega) ⟨rfl, rfl⟩ ?_) fun o ho => gSome ho
  rintro k ⟨_, _⟩ hk ⟨rfl, rfl⟩
  simp only
  refine gIte (fun h1 => ?_) fun h1 => gSome (by have : k = 8 := by omega
                                                 subst this; rfl)
  rw [rotaref_In_nat]
  simp only [Option.bind_some]
  have hle : ((List.range k).filter fun i => s.testBit i).length ≤ k := by
    have := List.length_filter_le (fun i => s.testBit i) (List.range k)
    simpa using this
  refine gIte (fun h2 => gChk (by simp; omega) (gSome ⟨by omega, by simp, ?_⟩)) fun h2 => gSome ⟨by omega, by simp, ?_⟩
  · rw [List.range_succ, List.filter_append, cs_app]; simp [h2]
  · rw [List.range_succ, List.filter_append]; simp [h2]
theorem rotaref_Size_nat (s : Nat) : rotaref_Size s = some ((size s : Nat) : Int) := by
 unfold rotaref_Size
 rw [rotaref_Elements_nat]
 simp [els_len]
theorem ContainsFuncC {L : List Nat} {f : Int → Option Bool} {p : Nat → Bool} (hl : L.length < 2 ^ 60) (hf : ∀ s, s ∈ L → f (s : Nat) = some (p s)) :
  Gets (slices_ContainsFunc_int_int (cs L) f) (fun r => r = true ↔ ∃ s, s ∈ L ∧ p s = true) := by
 unfold slices_ContainsFunc_int_int slices_IndexFunc_int_int
 refine gBind (R := fun r : Int => 0 ≤ r ↔ ∃ s, s ∈ L ∧ p s = true) (gBind (R := fun z => match z with | .inl _ => ∀ k, k < L.length → p (L.getD k 0) = false | .inr r => 0 ≤ r ∧ ∃ s, s ∈ L ∧ p s = true)
  (gFor L.length (fun k v => v = (k : Int) ∧ ∀ j, j < k → p (L.getD j 0) = false) (Nat.zero_le _) ⟨rfl, none_all⟩ ?_) ?_) fun r hr => gSome ?_
 ·rintro k _ hk ⟨rfl, hb⟩
  simp only [cs_len, cs_get, toNat_nat]
  refine gIte (fun h1 => gChk (by omega) ?_) fun h1 => gSome fun j hj => hb j (by omega)
  have hk' : k < L.length := by omega
  have hm : L.getD k 0 ∈ L := mem_getD.2 ⟨k, hk', rfl⟩
  rw [hf _ hm]
  simp only [Option.bind_some]
  refine gIte (fun q => gSome ⟨by omega, _, hm, q⟩) fun q => gSome ⟨hk', by simp, step_all hb (bool_ne q)⟩
 ·rintro (u | rr) hz
  ·refine gSome ⟨fun q => absurd q (by omega), fun ⟨s, hs, hp⟩ => ?_⟩
   obtain ⟨k, hk, rfl⟩ := mem_getD.1 hs
   rw [hz k hk] at hp; cases hp
  ·exact gSome ⟨fun _ => hz.2, fun _ => hz.1⟩
 ·rw [decide_eq_true_eq]; exact hr
theorem Fam.nodup {m : Nat} {L : List Nat} (h : Fam m L) : L.Nodup := by
 unfold List.Nodup
 rw [List.pairwise_iff_getElem]
 intro i j hi hj hij
 have := h.rise i j hij hj
 simp [List.getD_eq_getElem?_getD, List.getElem?_eq_getElem hi, List.getElem?_eq_getElem hj] at this
 omega
def mostL (L : List Nat) : List Nat := L.filter fun s => decide (∀ t, t ∈ L → Inc s t → t = s)
theorem mem_mostL {L : List Nat} {s : Nat} : s ∈ mostL L ↔ s ∈ L ∧ ∀ t, t ∈ L → Inc s t → t = s := by
 unfold mostL; rw [List.mem_filter, decide_eq_true_eq]
theorem Most_ok {m : Nat} {L : List Nat} (hL : Fam m L) : sets_Most m (cs L) = some (cs (mostL L), 0) := by
 refine Gets.eq ?_
 have hlen := hL.len
 have hfam : sets_Family m (cs L) = some 0 := by
  obtain ⟨r, h1, h2⟩ := sets_Family_spec m (cs L) (by simp; omega)
  rcases h2 with ⟨rfl, _⟩ | ⟨_, hn⟩
  ·exact h1
  ·exact absurd ⟨m, L, rfl, rfl, hL⟩ hn
 unfold sets_Most mostL
 refine gBindE hfam (gIte (fun q => absurd rfl q) fun _ => ?_)
 refine gBind (R := fun o => o = cs (L.filter fun s => decide (∀ t, t ∈ L → Inc s t → t = s))) (gFor L.length (fun k (x : List Int × Int) => x.2 = (k : Int) ∧ x.1 = cs ((L.take k).filter fun s => decide (∀ t, t ∈ L → Inc s t → t = s))) (Nat.zero_le _) ⟨rfl, rfl⟩ ?_) fun o ho => gSome (by rw [ho])
 rintro k ⟨_, _⟩ hk ⟨rfl, rfl⟩
 simp only [cs_len, cs_get, toNat_nat]
 refine gIte (fun h1 => gChk (by omega) ?_) fun h1 => gSome (by rw [List.take_of_length_le (by omega)])
 have hk' : k < L.length := by omega
 have etake : L.take (k + 1) = L.take k ++ [L.getD k 0] := by
  rw [List.take_add_one, List.getD_eq_getElem?_getD, List.getElem?_eq_getElem hk']; rfl
 have hle : ((L.take k).filter fun s => decide (∀ t, t ∈ L → Inc s t → t = s)).length ≤ 256 := by
  have := List.length_filter_le (fun s => decide (∀ t, t ∈ L → Inc s t → t = s)) (L.take k)
  have := List.length_take_le k L
  omega
 refine gBind (ContainsFuncC (p := fun t => decide (t ≠ L.getD k 0 ∧ Inc (L.getD k 0) t)) (by omega) fun t ht => ?_) fun r hr => gIte (fun q => gChk (by rw [List.length_append, cs_len]; simp only [List.length_cons, List.length_nil]; omega) (gSome ⟨hk', by simp, ?_⟩)) fun q => gSome ⟨hk', by simp, ?_⟩
 ·unfold sets_Most_1
  rw [and_nat]
  congr 1
  rw [Bool.eq_iff_iff, decide_eq_true_eq, decide_eq_true_eq, ← sub_iff_and, Nat.and_comm]
  omega
 ·show _ = cs _
  rw [etake, List.filter_append, cs_app]
  have : decide (∀ t, t ∈ L → Inc (L.getD k 0) t → t = L.getD k 0) = true := by
   rw [decide_eq_true_eq]
   intro t ht hi
   rcases Nat.decEq t (L.getD k 0) with e | e
   ·exact absurd (hr.2 ⟨t, ht, decide_eq_true ⟨e, hi⟩⟩) q
   ·exact e
  rw [List.filter_cons, if_pos this]; rfl
 ·show _ = cs _
  rw [etake, List.filter_append]
  have : ¬ decide (∀ t, t ∈ L → Inc (L.getD k 0) t → t = L.getD k 0) = true := by
   rw [decide_eq_true_eq]
   intro hall
   obtain ⟨t, ht, hp⟩ := hr.1 (by simpa using q)
   have hp := of_decide_eq_true hp
   exact hp.1 (hall t ht hp.2)
  rw [List.filter_cons, if_neg this]; simp
/-- The least sets of a list. -/
def Lst (L : List Nat) (s : Nat) : Prop := s ∈ L ∧ ∀ t, t ∈ L → Inc t s → t = s
instance (L : List Nat) (s : Nat) : Decidable (Lst L s) := by unfold Lst; infer_instance
def lstL (L : List Nat) : List Nat := L.filter fun s => decide (∀ t, t ∈ L → Inc t s → t = s)
theorem mem_lstL {L : List Nat} {s : Nat} : s ∈ lstL L ↔ Lst L s := by
 unfold lstL Lst
 rw [List.mem_filter, decide_eq_true_eq]
theorem ContainsFuncB {L : List Nat} {f : Int → Option Bool} {p : Nat → Bool} (hl : L.length < 2 ^ 60) (hf : ∀ s, s ∈ L → f (s : Nat) = some (p s)) :
  Gets (slices_ContainsFunc_int_int (cs L) f) (fun r => r = true ↔ ∃ s, s ∈ L ∧ p s = true) := by
 unfold slices_ContainsFunc_int_int slices_IndexFunc_int_int
 refine gBind (R := fun r : Int => 0 ≤ r ↔ ∃ s, s ∈ L ∧ p s = true) (gBind (R := fun z => match z with | .inl _ => ∀ k, k < L.length → p (L.getD k 0) = false | .inr r => 0 ≤ r ∧ ∃ s, s ∈ L ∧ p s = true)
  (gFor L.length (fun k v => v = (k : Int) ∧ ∀ j, j < k → p (L.getD j 0) = false) (Nat.zero_le _) ⟨rfl, none_all⟩ ?_) ?_) fun r hr => gSome ?_
 ·rintro k _ hk ⟨rfl, hb⟩
  simp only [cs_len, cs_get, toNat_nat]
  refine gIte (fun h1 => gChk (by omega) ?_) fun h1 => gSome fun j hj => hb j (by omega)
  have hk' : k < L.length := by omega
  have hm : L.getD k 0 ∈ L := mem_getD.2 ⟨k, hk', rfl⟩
  rw [hf _ hm]
  simp only [Option.bind_some]
  refine gIte (fun q => gSome ⟨by omega, _, hm, q⟩) fun q => gSome ⟨hk', by simp, step_all hb (bool_ne q)⟩
 ·rintro (u | rr) hz
  ·refine gSome ⟨fun q => absurd q (by omega), fun ⟨s, hs, hp⟩ => ?_⟩
   obtain ⟨k, hk, rfl⟩ := mem_getD.1 hs
   rw [hz k hk] at hp; cases hp
  ·exact gSome ⟨fun _ => hz.2, fun _ => hz.1⟩
 ·rw [decide_eq_true_eq]; exact hr
theorem FamilyB {m : Nat} {L : List Nat} (h : Fam m L) : sets_Family m (cs L) = some 0 := by
 obtain ⟨r, h1, h2⟩ := sets_Family_spec m (cs L) (by have := h.len; simp; omega)
 rcases h2 with ⟨rfl, _⟩ | ⟨_, hn⟩
 ·exact h1
 ·exact absurd ⟨m, L, rfl, rfl, h⟩ hn
theorem leastB {m : Nat} {L : List Nat} (hL : Fam m L) : sets_least (cs L) = some (cs (lstL L)) := by
 refine Gets.eq ?_
 have hlen := hL.len
 unfold sets_least lstL
 refine gBind (R := fun o => o = cs (L.filter fun s => decide (∀ t, t ∈ L → Inc t s → t = s))) (gFor L.length (fun k (x : List Int × Int) => x.2 = (k : Int) ∧ x.1 = cs ((L.take k).filter fun s => decide (∀ t, t ∈ L → Inc t s → t = s))) (Nat.zero_le _) ⟨rfl, rfl⟩ ?_) fun o ho => gSome ho
 rintro k ⟨_, _⟩ hk ⟨rfl, rfl⟩
 simp only [cs_len, cs_get, toNat_nat]
 refine gIte (fun h1 => gChk (by omega) ?_) fun h1 => gSome (by rw [List.take_of_length_le (by omega)])
 have hk' : k < L.length := by omega
 have etake : L.take (k + 1) = L.take k ++ [L.getD k 0] := by
  rw [List.take_add_one, List.getD_eq_getElem?_getD, List.getElem?_eq_getElem hk']; rfl
 have hle : ((L.take k).filter fun s => decide (∀ t, t ∈ L → Inc t s → t = s)).length ≤ 256 := by
  have := List.length_filter_le (fun s => decide (∀ t, t ∈ L → Inc t s → t = s)) (L.take k)
  have := List.length_take_le k L
  omega
 refine gBind (ContainsFuncB (p := fun t => decide (t ≠ L.getD k 0 ∧ Inc t (L.getD k 0))) (by omega) fun t ht => ?_) fun r hr => gIte (fun q => gChk (by rw [List.length_append, cs_len]; simp only [List.length_cons, List.length_nil]; omega) (gSome ⟨hk', by simp, ?_⟩)) fun q => gSome ⟨hk', by simp, ?_⟩
 ·unfold sets_least_1
  rw [and_nat]
  congr 1
  rw [Bool.eq_iff_iff, decide_eq_true_eq, decide_eq_true_eq, ← sub_iff_and]
  omega
 ·show _ = cs _
  rw [etake, List.filter_append, cs_app]
  have : decide (∀ t, t ∈ L → Inc t (L.getD k 0) → t = L.getD k 0) = true := by
   rw [decide_eq_true_eq]
   intro t ht hi
   rcases Nat.decEq t (L.getD k 0) with e | e
   ·exact absurd (hr.2 ⟨t, ht, decide_eq_true ⟨e, hi⟩⟩) q
   ·exact e
  rw [List.filter_cons, if_pos this]; rfl
 ·show _ = cs _
  rw [etake, List.filter_append]
  have : ¬ decide (∀ t, t ∈ L → Inc t (L.getD k 0) → t = L.getD k 0) = true := by
   rw [decide_eq_true_eq]
   intro hall
   obtain ⟨t, ht, hp⟩ := hr.1 (by simpa using q)
   have hp := of_decide_eq_true hp
   exact hp.1 (hall t ht hp.2)
  rw [List.filter_cons, if_neg this]; simp
theorem LeastB {m : Nat} {L : List Nat} (hL : Fam m L) : sets_Least m (cs L) = some (cs (lstL L), 0) := by
 unfold sets_Least
 rw [FamilyB hL, Option.bind_some, if_neg (by simp), leastB hL]; rfl
section
variable {p : Nat} [NeZero p]
variable {M : Nat → Nat → Fin p}
def ch : Nat → Nat → Nat
 | 0, 0 => 1
 | 0, _ + 1 => 0
 | n + 1, 0 => 1
 | n + 1, k + 1 => ch n k + ch n (k + 1)
theorem ch_zero (n : Nat) : ch n 0 = 1 := by cases n <;> rfl
end
theorem ch_tab : ∀ n : Fin 9, ∀ v : Fin 9, v.val < n.val → ch n.val v.val * (n.val - v.val) = ch n.val (v.val + 1) * (v.val + 1) ∧ ch n.val v.val ≤ 70 ∧ ch n.val (v.val + 1) ≤ 70 := by decide +kernel
theorem over_spec {n k : Nat} (hn : n ≤ 8) (hk : k ≤ n) : rotakeep_over (n : Int) (k : Int) = some ((ch n k : Nat) : Int) := by
 refine Gets.eq ?_
 unfold rotakeep_over
 refine gIte (fun c => absurd c (by omega)) fun _ => ?_
 refine gBind (R := fun z => z = ((ch n k : Nat) : Int)) (gFor k (fun v (x : Int × Int) => x.2 = (v : Int) ∧ x.1 = ((ch n v : Nat) : Int)) (Nat.zero_le _) ⟨rfl, by rw [ch_zero]; rfl⟩ ?_) fun z hz => gSome hz
 rintro v ⟨_, _⟩ hv ⟨rfl, rfl⟩
 simp only
 refine gIte (fun c => ?_) fun c => gSome (by rw [show v = k by omega])
 have hvk : v < k := by omega
 obtain ⟨t1, t2, t3⟩ := ch_tab ⟨n, by omega⟩ ⟨v, by omega⟩ (by show v < n; omega)
 simp only at t1 t2 t3
 have e0 : (n : Int) - (v : Int) = ((n - v : Nat) : Int) := by omega
 have e1 : ((ch n v : Nat) : Int) * ((n : Int) - (v : Int)) = ((ch n (v + 1) : Nat) : Int) * ((v : Int) + 1) := by
  rw [e0, ← Int.natCast_mul, t1, Int.natCast_mul]; rfl
 have e2 : Int.tdiv (((ch n v : Nat) : Int) * ((n : Int) - (v : Int))) ((v : Int) + 1) = ((ch n (v + 1) : Nat) : Int) := by
  rw [e1]; exact Int.mul_tdiv_cancel _ (by omega)
 have b1 : ((ch n v : Nat) : Int) * ((n : Int) - (v : Int)) ≤ 1000 ∧ 0 ≤ ((ch n v : Nat) : Int) * ((n : Int) - (v : Int)) := by
  rw [e0, ← Int.natCast_mul]
  have := Nat.mul_le_mul t2 (show n - v ≤ 8 by omega)
  omega
 simp only [e2]
 exact gChk ⟨by omega, by omega, by omega, by omega⟩ (gSome ⟨hvk, by simp, rfl⟩)
instance (L : List Nat) (s : Nat) : Decidable (Lst L s) := by unfold Lst; infer_instance
end Go.SH
