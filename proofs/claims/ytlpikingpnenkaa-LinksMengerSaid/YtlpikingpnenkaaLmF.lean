/-
 Graphs, flows and cuts, sets as numbers (what LinksMenger needs of the elder texts). Conditions: none.
-/
import Derived.Test.YtlpikingpnenkaaSp
import Derived.Test.YtlpikingpnenkaaHK
import Derived.Test.YtlpikingpnenkaaSprotaref
set_option linter.unusedSimpArgs false
set_option linter.unusedVariables false
set_option linter.unusedSectionVars false
namespace Go.SH
open Go Go.AX

/-- How many of the first m elements a set has. -/
def cnt : Nat → Nat → Nat
 | 0, _ => 0
 | m + 1, s => cnt m s + if s.testBit m then 1 else 0
/-- How many elements a set has (of eight). -/
def size (s : Nat) : Nat := cnt 8 s
theorem cnt_le (m s : Nat) : cnt m s ≤ m := by
 induction m with
 | zero => exact Nat.le_refl _
 | succ m ih => simp only [cnt]; split <;> omega
theorem cnt_congr {m s t : Nat} (h : ∀ i, i < m → s.testBit i = t.testBit i) : cnt m s = cnt m t := by
 induction m with
 | zero => rfl
 | succ m ih => simp only [cnt]; rw [ih fun i hi => h i (by omega), h m (by omega)]
theorem cnt_mono {m s t : Nat} (h : ∀ i, i < m → s.testBit i = true → t.testBit i = true) : cnt m s ≤ cnt m t := by
 induction m with
 | zero => exact Nat.le_refl _
 | succ m ih =>
  simp only [cnt]
  have := ih fun i hi => h i (by omega)
  have := h m (by omega)
  split <;> split <;> simp_all <;> omega
theorem cnt_zero (m : Nat) : cnt m 0 = 0 := by
 induction m with
 | zero => rfl
 | succ m ih => simp [cnt, ih]
theorem testBit_pow (i j : Nat) : (2 ^ i).testBit j = decide (i = j) := Nat.testBit_two_pow
theorem cnt_add {m s : Nat} {i : Nat} (hi : i < m) (h : s.testBit i = false) : cnt m (s ||| 2 ^ i) = cnt m s + 1 := by
 induction m with
 | zero => omega
 | succ m ih =>
  simp only [cnt, Nat.testBit_or, testBit_pow]
  rcases Nat.lt_or_ge i m with q | q
  ·rw [ih q]
   have : decide (i = m) = false := by simp; omega
   rw [this, Bool.or_false]; omega
  ·have : i = m := by omega
   subst this
   have e : cnt i (s ||| 2 ^ i) = cnt i s := cnt_congr fun j hj => by
    rw [Nat.testBit_or, testBit_pow]
    have : decide (i = j) = false := by simp; omega
    rw [this, Bool.or_false]
   rw [e, h]; simp
theorem bit_lt {s m i : Nat} (hs : s < 2 ^ m) (h : s.testBit i = true) : i < m := by
 rcases Nat.lt_or_ge i m with q | q
 ·exact q
 ·have := Nat.testBit_lt_two_pow (i := i) (Nat.lt_of_lt_of_le hs (Nat.pow_le_pow_right (by omega) q))
  rw [this] at h; cases h
theorem bit_ge {s m i : Nat} (hs : s < 2 ^ m) (h : m ≤ i) : s.testBit i = false := by
 cases hb : s.testBit i
 ·rfl
 ·have := bit_lt hs hb; omega
theorem lt_of_bits {s m : Nat} (h : ∀ i, m ≤ i → s.testBit i = false) : s < 2 ^ m := by
 rcases Nat.lt_or_ge s (2 ^ m) with q | q
 ·exact q
 ·obtain ⟨i, h1, h2⟩ := Nat.exists_ge_and_testBit_of_ge_two_pow q
  rw [h i h1] at h2; cases h2
theorem set_ext {m s t : Nat} (hs : s < 2 ^ m) (ht : t < 2 ^ m) (h : ∀ i, i < m → s.testBit i = t.testBit i) : s = t := by
 apply Nat.eq_of_testBit_eq
 intro i
 rcases Nat.lt_or_ge i m with q | q
 ·exact h i q
 ·rw [bit_ge hs q, bit_ge ht q]
theorem cnt_of_lt {m k s : Nat} (hs : s < 2 ^ m) (hk : m ≤ k) : cnt k s = cnt m s := by
  induction k with
  | zero => have : m = 0 := by omega
            subst this; rfl
  | succ k ih =>
    rcases Nat.lt_or_ge m (k + 1) with q | q
    · simp only [cnt]; rw [ih (by omega), bit_ge hs (by omega)]; simp
    · have : m = k + 1 := by omega
      rw [this]
theorem size_of_lt {m s : Nat} (hs : s < 2 ^ m) (hm : m ≤ 8) : size s = cnt m s := cnt_of_lt hs hm
/-- Within. -/
def Inc (s t : Nat) : Prop := ∀ i, s.testBit i = true → t.testBit i = true
theorem sub_iff_and (s t : Nat) : s &&& t = s ↔ Inc s t := by
 constructor
 ·intro h i hs
  have := congrArg (fun x => Nat.testBit x i) h
  simp only [Nat.testBit_and, hs, Bool.true_and] at this
  exact this
 ·intro h
  apply Nat.eq_of_testBit_eq; intro i
  rw [Nat.testBit_and]
  cases hs : s.testBit i
  ·rfl
  ·rw [h i hs]; rfl
/-- A set grows element by element. -/
theorem set_ind {m : Nat} (p : Nat → Prop) (h0 : p 0) (h : ∀ s i, s < 2 ^ m → i < m → s.testBit i = false → p s → p (s ||| 2 ^ i)) : ∀ s, s < 2 ^ m → p s := by
  have key : ∀ k s, s < 2 ^ k → k ≤ m → p s := by
    intro k
    induction k with
    | zero => intro s hs _; have : s = 0 := by omega
              subst this; exact h0
    | succ k ih =>
      intro s hs hk
      by_cases hb : s.testBit k = true
      · let t := dif s (2 ^ k)
        have ht : t < 2 ^ k := lt_of_bits fun i hi => by
          show (dif s (2 ^ k)).testBit i = false
          rw [testBit_dif, testBit_pow]
          rcases Nat.lt_or_ge i (k + 1) with q | q
          · have : k = i := by omega
            subst this; simp
          · rw [bit_ge hs q]; rfl
        have e : s = t ||| 2 ^ k := by
          apply Nat.eq_of_testBit_eq; intro i
          rw [Nat.testBit_or, testBit_pow]
          show _ = ((dif s (2 ^ k)).testBit i || _)
          rw [testBit_dif, testBit_pow]
          by_cases q : k = i
          · subst q; simp [hb]
          · simp [q]
        rw [e]
        exact h t k (Nat.lt_of_lt_of_le ht (Nat.pow_le_pow_right (by omega) (by omega))) (by omega) (bit_ge ht (Nat.le_refl _)) (ih t ht (by omega))
      · refine ih s (lt_of_bits fun i hi => ?_) (by omega)
        rcases Nat.lt_or_ge i (k + 1) with q | q
        · have : k = i := by omega
          subst this; simpa using hb
        · exact bit_ge hs q
  exact fun s hs => key m s hs (Nat.le_refl _)
theorem dif_or {c i : Nat} (h1 : c.testBit i = true) : dif c (2 ^ i) ||| 2 ^ i = c := by
 apply Nat.eq_of_testBit_eq; intro j
 rw [Nat.testBit_or, testBit_dif, testBit_pow]
 by_cases e : i = j
 ·subst e; simp [h1]
 ·simp [e]
theorem cnt_dif {m c i : Nat} (hc : c < 2 ^ m) (h1 : c.testBit i = true) : cnt m c = cnt m (dif c (2 ^ i)) + 1 := by
 have := cnt_add (m := m) (s := dif c (2 ^ i)) (bit_lt hc h1) (by rw [testBit_dif, testBit_pow]; simp)
 rwa [dif_or h1] at this
theorem cnt_pos {m c i : Nat} (hc : c < 2 ^ m) (h1 : c.testBit i = true) : 0 < cnt m c := by have := cnt_dif hc h1; omega
theorem exists_bit {c : Nat} (h : c ≠ 0) : ∃ i, c.testBit i = true := by
 rcases Classical.em (∃ i, c.testBit i = true) with q | q
 ·exact q
 ·exfalso; apply h
  apply Nat.eq_of_testBit_eq; intro i
  rw [Nat.zero_testBit]
  cases hb : c.testBit i
  ·rfl
  ·exact absurd ⟨i, hb⟩ q
theorem or_eq_iff (s t : Nat) : s ||| t = t ↔ Inc s t := by
 constructor
 ·intro h i hs
  rw [← h, Nat.testBit_or, hs]; rfl
 ·intro h
  apply Nat.eq_of_testBit_eq; intro i
  rw [Nat.testBit_or]
  cases hs : s.testBit i
  ·rfl
  ·rw [h i hs]; rfl
theorem Inc.trans {a b c : Nat} (h : Inc a b) (k : Inc b c) : Inc a c := fun i hi => k i (h i hi)
instance instIncDec (a b : Nat) : Decidable (Inc a b) := decidable_of_iff (a &&& b = a) (sub_iff_and a b)
theorem step_all {p : Nat → Prop} {k : Nat} (h1 : ∀ j, j < k → p j) (h2 : p k) : ∀ j, j < k + 1 → p j := fun j hj => by
 rcases Nat.lt_or_ge j k with q | q
 ·exact h1 j q
 ·have : j = k := by omega
  subst this; exact h2
theorem none_all {p : Nat → Prop} : ∀ j, j < 0 → p j := fun j hj => absurd hj (Nat.not_lt_zero j)
/-- A list of sets, as numbers of the program's. -/
def cs (L : List Nat) : List Int := L.map Nat.cast
@[simp] theorem cs_len (L : List Nat) : (cs L).length = L.length := by simp [cs]
theorem cs_get (L : List Nat) (k : Nat) : (cs L).getD k 0 = ((L.getD k 0 : Nat) : Int) := by
 simp only [cs, List.getD_eq_getElem?_getD, List.getElem?_map]
 cases L[k]? <;> simp
theorem cs_app (L : List Nat) (a : Nat) : cs L ++ [(a : Int)] = cs (L ++ [a]) := by simp [cs]
theorem mem_getD {L : List Nat} {a : Nat} : a ∈ L ↔ ∃ k, k < L.length ∧ L.getD k 0 = a := by
 rw [List.mem_iff_getElem?]
 constructor
 ·rintro ⟨i, hi⟩
  exact ⟨i, (List.getElem?_eq_some_iff.1 hi).1, by rw [List.getD_eq_getElem?_getD, hi]; rfl⟩
 ·rintro ⟨k, h1, h2⟩
  refine ⟨k, ?_⟩
  rw [List.getElem?_eq_getElem h1]
  rw [List.getD_eq_getElem?_getD, List.getElem?_eq_getElem h1] at h2
  exact congrArg some h2
/-- A family: sets of m elements, rising. -/
structure Fam (m : Nat) (L : List Nat) : Prop where
 m8 : m ≤ 8
 lt : ∀ s, s ∈ L → s < 2 ^ m
 rise : ∀ i j, i < j → j < L.length → L.getD i 0 < L.getD j 0
theorem Fam.ge {m : Nat} {L : List Nat} (h : Fam m L) : ∀ k, k < L.length → k ≤ L.getD k 0 := fun k => by
 induction k with
 | zero => intro _; exact Nat.zero_le _
 | succ k ih => intro hk; have := ih (by omega); have := h.rise k (k + 1) (by omega) hk; omega
theorem Fam.len {m : Nat} {L : List Nat} (h : Fam m L) : L.length ≤ 256 := by
 rcases Nat.eq_zero_or_pos L.length with q | q
 ·omega
 ·have h1 := h.ge (L.length - 1) (by omega)
  have h2 := h.lt _ (mem_getD.2 ⟨L.length - 1, by omega, rfl⟩)
  have := pow_le8 h.m8
  omega
theorem cnt_or_and (m a b : Nat) : cnt m (a ||| b) + cnt m (a &&& b) = cnt m a + cnt m b := by
 induction m with
 | zero => rfl
 | succ m ih =>
  simp only [cnt, Nat.testBit_or, Nat.testBit_and]
  cases a.testBit m <;> cases b.testBit m <;> simp <;> omega
theorem cnt_split (m a b : Nat) : cnt m a = cnt m (a &&& b) + cnt m (dif a b) := by
 induction m with
 | zero => rfl
 | succ m ih =>
  simp only [cnt, testBit_dif, Nat.testBit_and]
  cases a.testBit m <;> cases b.testBit m <;> simp <;> omega
theorem cnt_le_of_inc {m a b : Nat} (h : Inc a b) : cnt m a ≤ cnt m b := cnt_mono fun i _ hi => h i hi
theorem inc_and {a b c : Nat} (h : Inc c a) (k : Inc c b) : Inc c (a &&& b) := fun i hi => by rw [Nat.testBit_and, h i hi, k i hi]; rfl
theorem inc_or_l (a b : Nat) : Inc a (a ||| b) := fun i hi => by rw [Nat.testBit_or, hi]; rfl
theorem inc_or_r (a b : Nat) : Inc b (a ||| b) := fun i hi => by rw [Nat.testBit_or, hi, Bool.or_true]
theorem inc_or {a b c : Nat} (h : Inc a c) (k : Inc b c) : Inc (a ||| b) c := fun i hi => by
 rw [Nat.testBit_or, Bool.or_eq_true] at hi
 rcases hi with hi | hi
 ·exact h i hi
 ·exact k i hi
theorem inc_dif (a b : Nat) : Inc (dif a b) a := fun i hi => by rw [testBit_dif] at hi; simp only [Bool.and_eq_true] at hi; exact hi.1
theorem inc_pow {i s : Nat} (h : s.testBit i = true) : Inc (2 ^ i) s := fun j hj => by
 rw [testBit_pow, decide_eq_true_eq] at hj; subst hj; exact h
theorem Inc.refl (a : Nat) : Inc a a := fun _ h => h
theorem Inc.lt {a b m : Nat} (h : Inc a b) (hb : b < 2 ^ m) : a < 2 ^ m := lt_of_bits fun i hi => by
 cases q : a.testBit i
 ·rfl
 ·have := bit_lt hb (h i q); omega
/-- Independent: within a basis. -/
def Ind (B : List Nat) (s : Nat) : Prop := ∃ b, b ∈ B ∧ Inc s b
theorem Ind.mono {B : List Nat} {s t : Nat} (h : Ind B t) (hs : Inc s t) : Ind B s := let ⟨b, h1, h2⟩ := h; ⟨b, h1, hs.trans h2⟩
/-- How much of a basis lies in a set at most. -/
def rk (m : Nat) (B : List Nat) (s : Nat) : Nat := B.foldl (fun r b => max r (cnt m (s &&& b))) 0
/-- The elements of a set, rising. -/
def els (s : Nat) : List Nat := (List.range 8).filter fun i => s.testBit i
theorem els_len (s : Nat) : (els s).length = size s := by
 unfold els size
 have : ∀ k, ((List.range k).filter fun i => s.testBit i).length = cnt k s := fun k => by
  induction k with
  | zero => rfl
  | succ k ih =>
   rw [List.range_succ, List.filter_append, List.length_append, ih]
   simp only [cnt]
   cases hb : s.testBit k <;> simp [hb]
 exact this 8
theorem oc_tab : ∀ a : Fin 256, oc (a.val : Int) = ((size a.val : Nat) : Int) := of_decide_eq_true (by kernel_rfl)
theorem oc_size {a : Nat} (h : a < 256) : oc (a : Int) = ((size a : Nat) : Int) := oc_tab ⟨a, h⟩
def hA (E : List (Int × Int)) (k : Nat) : Nat := (E.getD k (0, 0)).1.toNat
def hB (E : List (Int × Int)) (k : Nat) : Nat := (E.getD k (0, 0)).2.toNat
section
variable {E : List (Int × Int)} {N : Nat}
def Adj (E : List (Int × Int)) (S x y : Nat) : Prop := ∃ k, k < E.length ∧ S.testBit k = true ∧ ((x = hA E k ∧ y = hB E k) ∨ (x = hB E k ∧ y = hA E k))
inductive Con (E : List (Int × Int)) (S : Nat) : Nat → Nat → Prop
 | refl (u : Nat) : Con E S u u
 | tail {u v w : Nat} : Con E S u v → Adj E S v w → Con E S u w
theorem Adj.symm {S x y : Nat} (h : Adj E S x y) : Adj E S y x := by
 obtain ⟨k, h1, h2, h3⟩ := h
 exact ⟨k, h1, h2, h3.elim (fun q => .inr ⟨q.2, q.1⟩) fun q => .inl ⟨q.2, q.1⟩⟩
theorem Con.trans {S u v w : Nat} (h : Con E S u v) (k : Con E S v w) : Con E S u w := by
 induction k with
 | refl => exact h
 | tail _ a ih => exact .tail ih a
theorem Con.one {S x y : Nat} (h : Adj E S x y) : Con E S x y := .tail (.refl _) h
theorem Con.symm {S u v : Nat} (h : Con E S u v) : Con E S v u := by
 induction h with
 | refl => exact .refl _
 | tail _ a ih => exact (Con.one a.symm).trans ih
theorem Con.mono {S T u v : Nat} (hST : Inc S T) (h : Con E S u v) : Con E T u v := by
 induction h with
 | refl => exact .refl _
 | tail _ a ih =>
  obtain ⟨k, h1, h2, h3⟩ := a
  exact .tail ih ⟨k, h1, hST k h2, h3⟩
theorem Con.edge {S k : Nat} (hk : k < E.length) (h : S.testBit k = true) : Con E S (hA E k) (hB E k) := .one ⟨k, hk, h, .inl ⟨rfl, rfl⟩⟩
/-- All ends are vertices. -/
def EndsLt (N : Nat) (E : List (Int × Int)) : Prop := ∀ k, k < E.length → hA E k < N ∧ hB E k < N
theorem Con.lt (hE : EndsLt N E) {S u v : Nat} (h : Con E S u v) (hu : u < N) : v < N := by
 cases h with
 | refl => exact hu
 | tail _ a =>
  obtain ⟨k, h1, h2, h3⟩ := a
  have := hE k h1
  omega
end
/-- A graph. -/
structure CG (N : Int) (E : List (Int × Int)) : Prop where
 n1 : 1 ≤ N
 n7 : N ≤ 7
 e8 : E.length ≤ 8
 bd : ∀ k, k < E.length → 0 ≤ (E.getD k (0, 0)).1 ∧ (E.getD k (0, 0)).1 < N ∧ 0 ≤ (E.getD k (0, 0)).2 ∧ (E.getD k (0, 0)).2 < N
theorem CheckGraph_spec (N : Int) (E : List (Int × Int)) : Gets (kinds_CheckGraph N E) (fun e => (e = 0 ∨ e = 1) ∧ (e = 0 ↔ CG N E)) := by
 unfold kinds_CheckGraph
 refine gIte (fun h1 => gSome ⟨.inr rfl, fun h => by omega, fun h => ?_⟩) fun h1 => ?_
 ·have := h.n1; have := h.n7; have := h.e8; omega
 refine gBind (R := fun z : Unit ⊕ Int => match z with | .inl _ => CG N E | .inr e => e = 1 ∧ ¬ CG N E) (gFor E.length (fun i (v : Int) => v = (i : Int) ∧ ∀ k, k < i → 0 ≤ (E.getD k (0, 0)).1 ∧ (E.getD k (0, 0)).1 < N ∧ 0 ≤ (E.getD k (0, 0)).2 ∧ (E.getD k (0, 0)).2 < N) (Nat.zero_le _) ⟨rfl, fun a ha => by omega⟩ ?_) ?_
 ·rintro i v hi ⟨rfl, h2⟩
  refine gIte (fun h3 => ?_) fun h3 => ?_
  rotate_left
  ·have e : i = E.length := by omega
   subst e
   exact gSome ⟨by omega, by omega, by omega, h2⟩
  refine gChk ⟨by omega, by omega⟩ ?_
  simp only [toNat_nat]
  refine gIte (fun h4 => gSome ⟨rfl, fun h => ?_⟩) fun h4 => gSome ⟨by omega, by simp, fun k hk => ?_⟩
  ·have := h.bd i (by omega); omega
  ·rcases Nat.lt_succ_iff_lt_or_eq.1 hk with q | q
   ·exact h2 k q
   ·subst q; omega
 ·rintro (_ | e) hz
  ·exact gSome ⟨.inl rfl, fun _ => hz, fun _ => rfl⟩
  ·obtain ⟨rfl, hz⟩ := hz
   exact gSome ⟨.inr rfl, fun h => by omega, fun h => absurd h hz⟩
theorem CG.ends {N : Nat} {E : List (Int × Int)} (h : CG N E) : EndsLt N E ∧ ∀ k, k < E.length → (E.getD k (0, 0)).1 = ((hA E k : Nat) : Int) ∧ (E.getD k (0, 0)).2 = ((hB E k : Nat) : Int) :=
 ⟨fun k hk => by have := h.bd k hk; unfold hA hB; omega, fun k hk => by have := h.bd k hk; unfold hA hB; omega⟩
/-- A rank function on sets. -/
structure RkF (r : Nat → Nat) : Prop where
 zero : r 0 = 0
 mono : ∀ s t, Inc s t → r s ≤ r t
 step : ∀ s i, r (s ||| 2 ^ i) ≤ r s + 1
 sub : ∀ s t, r (s ||| t) + r (s &&& t) ≤ r s + r t
theorem bx {a b : Nat} (h : ∀ j, a.testBit j = b.testBit j) : a = b := Nat.eq_of_testBit_eq h
theorem RkF.add {r : Nat → Nat} (h : RkF r) (a : Nat) : ∀ b, b < 2 ^ 8 → r (a ||| b) ≤ r a + cnt 8 b := by
 refine set_ind (m := 8) _ ?_ ?_
 ·simp
 ·intro s i hs hi hb ih
  have e : a ||| (s ||| 2 ^ i) = (a ||| s) ||| 2 ^ i := (Nat.or_assoc _ _ _).symm
  rw [e, cnt_add hi hb]
  have := h.step (a ||| s) i
  omega
theorem RkF.le {r : Nat → Nat} (h : RkF r) {b : Nat} (hb : b < 2 ^ 8) : r b ≤ cnt 8 b := by
 have := h.add 0 b hb
 rw [Nat.zero_or, h.zero] at this
 omega
theorem cnt8 {m s : Nat} (h8 : m ≤ 8) (hs : s < 2 ^ m) : cnt 8 s = cnt m s := cnt_of_lt hs h8
def cpl (m s : Nat) : Nat := dif (2 ^ m - 1) s
theorem full_bit (m i : Nat) : (2 ^ m - 1).testBit i = decide (i < m) := Nat.testBit_two_pow_sub_one m i
theorem cpl_bit (m s i : Nat) : (cpl m s).testBit i = (decide (i < m) && !s.testBit i) := by rw [cpl, testBit_dif, full_bit]
theorem full_lt (m : Nat) : 2 ^ m - 1 < 2 ^ m := by have : 0 < 2 ^ m := Nat.pow_pos (by omega); omega
theorem cpl_lt (m s : Nat) : cpl m s < 2 ^ m := dif_lt (full_lt m)
theorem cpl_cnt {m s : Nat} : cnt m (cpl m s) + cnt m s = m := by
 have h1 := cnt_split m (2 ^ m - 1) s
 have h2 : cnt m (2 ^ m - 1 &&& s) = cnt m s := cnt_congr fun i hi => by rw [Nat.testBit_and, full_bit]; simp [hi]
 have h3 : cnt m (2 ^ m - 1) = m := by
  have : ∀ k, k ≤ m → cnt k (2 ^ m - 1) = k := fun k => by
   induction k with
   | zero => intro _; rfl
   | succ k ih => intro hk; simp only [cnt]; rw [ih (by omega), full_bit]; simp [show k < m by omega]
  exact this m (Nat.le_refl _)
 unfold cpl
 omega
/-- A set that is free and of the full rank. -/
theorem RkF.basis {r : Nat → Nat} (h : RkF r) {G : Nat} (hG : G < 2 ^ 8) : ∃ I, Inc I G ∧ r I = cnt 8 I ∧ r I = r G := by
 refine set_ind (m := 8) (fun G => ∃ I, Inc I G ∧ r I = cnt 8 I ∧ r I = r G) ⟨0, Inc.refl 0, by rw [h.zero, cnt_zero], rfl⟩ ?_ G hG
 rintro s i hs hi hb ⟨I, i1, i2, i3⟩
 have st := h.step s i
 have mo := h.mono s (s ||| 2 ^ i) (inc_or_l _ _)
 rcases Nat.lt_or_ge (r s) (r (s ||| 2 ^ i)) with c | c
 ·have hIb : I.testBit i = false := by
   cases q : I.testBit i with
   | false => rfl
   | true => rw [i1 i q] at hb; cases hb
  have hsub := h.sub (I ||| 2 ^ i) s
  have e1 : I ||| 2 ^ i ||| s = s ||| 2 ^ i := by
   rw [Nat.or_assoc, Nat.or_comm (2 ^ i), ← Nat.or_assoc, (or_eq_iff I s).2 i1]
  have e2 := h.mono I ((I ||| 2 ^ i) &&& s) (inc_and (inc_or_l _ _) i1)
  have e3 := h.step I i
  have e4 : cnt 8 (I ||| 2 ^ i) = cnt 8 I + 1 := cnt_add hi hIb
  rw [e1] at hsub
  exact ⟨I ||| 2 ^ i, inc_or (i1.trans (inc_or_l _ _)) (inc_or_r _ _), by omega, by omega⟩
 ·exact ⟨I, i1.trans (inc_or_l _ _), i2, by omega⟩
/-- The set of what f gives on s. -/
theorem image_ex {n : Nat} (f : Nat → Nat) (b : Nat) : ∀ s, s < 2 ^ n → (∀ x, s.testBit x = true → f x < b) → (∀ x y, s.testBit x = true → s.testBit y = true → f x = f y → x = y) → ∃ N, N < 2 ^ b ∧ cnt b N = cnt n s ∧ ∀ j, N.testBit j = true ↔ ∃ x, s.testBit x = true ∧ f x = j := by
 refine set_ind (m := n) (fun s => (∀ x, s.testBit x = true → f x < b) → (∀ x y, s.testBit x = true → s.testBit y = true → f x = f y → x = y) → ∃ N, N < 2 ^ b ∧ cnt b N = cnt n s ∧ ∀ j, N.testBit j = true ↔ ∃ x, s.testBit x = true ∧ f x = j) (fun _ _ => ⟨0, Nat.pow_pos (by omega), by rw [cnt_zero, cnt_zero], fun j => by simp⟩) ?_
 intro s i hs hi hb ih h1 h2
 have bi : (s ||| 2 ^ i).testBit i = true := by rw [Nat.testBit_or, testBit_pow]; simp
 have bv : ∀ v, s.testBit v = true → (s ||| 2 ^ i).testBit v = true := fun v hv => by rw [Nat.testBit_or, hv]; rfl
 obtain ⟨N, n1, n2, n3⟩ := ih (fun x hx => h1 x (bv x hx)) fun x y hx hy => h2 x y (bv x hx) (bv y hy)
 have hno : N.testBit (f i) = false := by
  cases q : N.testBit (f i) with
  | false => rfl
  | true =>
   obtain ⟨x, x1, x2⟩ := (n3 _).1 q
   have := h2 x i (bv x x1) bi x2
   subst this
   rw [hb] at x1; cases x1
 refine ⟨N ||| 2 ^ f i, or_lt n1 (Nat.pow_lt_pow_right (by omega) (h1 i bi)), by rw [cnt_add (h1 i bi) hno, cnt_add hi hb, n2], fun j => ?_⟩
 rw [Nat.testBit_or, testBit_pow, Bool.or_eq_true, n3, decide_eq_true_eq]
 constructor
 ·rintro (⟨x, x1, x2⟩ | rfl)
  ·exact ⟨x, bv x x1, x2⟩
  ·exact ⟨i, bi, rfl⟩
 ·rintro ⟨x, x1, x2⟩
  rw [Nat.testBit_or, testBit_pow, Bool.or_eq_true, decide_eq_true_eq] at x1
  rcases x1 with x1 | rfl
  ·exact .inl ⟨x, x1, x2⟩
  ·exact .inr x2
structure HOk (n : Nat) (L : List Nat) : Prop where
 n8 : n ≤ 8
 l8 : L.length ≤ 8
 lt : ∀ k, k < L.length → L.getD k 0 < 2 ^ n
/-- Numbers that have inverses. -/
structure Fld (p : Nat) [NeZero p] : Prop where
 one : (1 : Fin p) ≠ 0
 inv : ∀ a : Fin p, a ≠ 0 → ∃ b, a * b = 1
theorem fld2 : Fld 2 := ⟨by decide, by decide⟩
theorem fld3 : Fld 3 := ⟨by decide, by decide⟩
theorem fld5 : Fld 5 := ⟨by decide, by decide⟩
theorem fld7 : Fld 7 := ⟨by decide, by decide⟩
section
variable {p : Nat} [NeZero p]
def Sm : Nat → (Nat → Fin p) → Fin p
 | 0, _ => 0
 | n + 1, f => Sm n f + f n
end
section
variable {p : Nat} [NeZero p]
def ent (X : List (List Int)) (i j : Nat) : Int := (X.getD i []).getD j 0
structure MOk (p r n : Nat) (X : List (List Int)) : Prop where
 len : X.length = r
 row : ∀ i, i < r → (X.getD i []).length = n
 bd : ∀ i, i < r → ∀ j, j < n → 0 ≤ ent X i j ∧ ent X i j < p
theorem ent_set {X : List (List Int)} {i j : Nat} {v : Int} (hi : i < X.length) (hj : j < (X.getD i []).length) (a b : Nat) : ent (X.set i ((X.getD i []).set j v)) a b = if a = i ∧ b = j then v else ent X a b := by
 unfold ent
 have e : ∀ (l : List (List Int)) (k : Nat), l.getD k [] = (l[k]?).getD [] := fun l k => List.getD_eq_getElem?_getD ..
 rw [e (X.set i _) a, List.getElem?_set]
 by_cases c : i = a
 ·subst c
  rw [if_pos rfl, if_pos hi]
  simp only [Option.getD_some, true_and]
  rw [List.getD_eq_getElem?_getD, List.getElem?_set]
  by_cases d : j = b
  ·subst d; rw [if_pos rfl, if_pos hj, if_pos rfl]; rfl
  ·rw [if_neg d, if_neg (Ne.symm d), ← List.getD_eq_getElem?_getD]
 ·rw [if_neg c, if_neg (fun h => c h.1.symm), ← e]
theorem len_set2 (X : List (List Int)) (i j : Nat) (v : Int) (m : Nat) : ((X.set i ((X.getD i []).set j v)).getD m []).length = (X.getD m []).length := by
 rw [List.getD_eq_getElem?_getD, List.getElem?_set]
 split
 ·rename_i e
  subst e
  split
  ·simp
  ·rename_i h; rw [List.getD_eq_getElem?_getD, List.getElem?_eq_none (by omega)]
 ·rw [← List.getD_eq_getElem?_getD]
theorem MOk.put {r n : Nat} {X : List (List Int)} (h : MOk p r n X) {i j : Nat} {v : Int} (hi : i < r) (hj : j < n) (hv : 0 ≤ v ∧ v < p) : MOk p r n (X.set i ((X.getD i []).set j v)) := by
 refine ⟨by rw [List.length_set]; exact h.len, fun a ha => ?_, fun a ha b hb => ?_⟩
 ·rw [len_set2]; exact h.row a ha
 ·rw [ent_set (by rw [h.len]; exact hi) (by rw [h.row i hi]; exact hj)]
  split
  ·exact hv
  ·exact h.bd a ha b hb
def Ker (r n : Nat) (M : Nat → Nat → Fin p) (v : Nat → Fin p) : Prop := ∀ i, i < r → Sm n (fun j => M i j * v j) = 0
end
section
variable {p : Nat} [NeZero p]
structure El (r n : Nat) (M0 M : Nat → Nat → Fin p) (rk c : Nat) : Prop where
 rkc : rk ≤ c
 rkr : rk ≤ r
 cn : c ≤ n
 low : ∀ i, rk ≤ i → i < r → ∀ j, j < c → M i j = 0
 ker : ∀ v, Ker r n M v ↔ Ker r n M0 v
 two : (rk = c ∧ (∀ i, i < c → M i i ≠ 0) ∧ ∀ i, i < c → ∀ j, j < i → M i j = 0) ∨ (rk < c ∧ ∃ v, Ker r n M0 v ∧ ∃ j, j < n ∧ v j ≠ 0)
variable {r n rk c : Nat} {M0 M : Nat → Nat → Fin p}
theorem El.start (r n : Nat) (M0 : Nat → Nat → Fin p) : El r n M0 M0 0 0 :=
 ⟨Nat.le_refl _, Nat.zero_le _, Nat.zero_le _, fun i _ _ j hj => by omega, fun v => Iff.rfl, .inl ⟨rfl, fun i hi => by omega, fun i hi => by omega⟩⟩
end
/-- The elements of a set below m, rising. -/
def elm (m s : Nat) : List Nat := (List.range m).filter fun i => s.testBit i
theorem elm_succ (m s : Nat) : elm (m + 1) s = if s.testBit m = true then elm m s ++ [m] else elm m s := by
 unfold elm
 rw [List.range_succ, List.filter_append]
 by_cases h : s.testBit m = true
 ·simp [h]
 ·simp [h]
theorem elm_len (m s : Nat) : (elm m s).length = cnt m s := by
 induction m with
 | zero => rfl
 | succ m ih =>
  rw [elm_succ, cnt]
  by_cases h : s.testBit m = true
  ·rw [if_pos h, if_pos h, List.length_append, ih]; rfl
  ·rw [if_neg h, if_neg h, ih]; rfl
section
variable {p : Nat} [NeZero p]
theorem elm_lt {n s k : Nat} (hk : k < cnt n s) : (elm n s).getD k 0 < n := by
 have hl : k < (elm n s).length := by rw [elm_len]; exact hk
 rw [List.getD_eq_getElem?_getD, List.getElem?_eq_getElem hl]
 have := List.getElem_mem hl
 unfold elm at this
 exact List.mem_range.1 (List.mem_filter.1 this).1
end
/-- A matrix. -/
def CM (P C : Int) (X : List (List Int)) : Prop := (P = 2 ∨ P = 3 ∨ P = 5 ∨ P = 7) ∧ 0 ≤ C ∧ C ≤ 8 ∧ X.length ≤ 6 ∧ ∀ i, i < X.length → ((X.getD i []).length : Int) = C ∧ ∀ j, j < (X.getD i []).length → 0 ≤ ent X i j ∧ ent X i j < P
theorem CM.elim {P C : Int} {X : List (List Int)} (h : CM P C X) : ∃ (p n : Nat) (_ : NeZero p), P = p ∧ C = n ∧ n ≤ 8 ∧ p ≤ 7 ∧ Fld p ∧ X.length ≤ 6 ∧ MOk p X.length n X := by
 obtain ⟨h1, h2, h3, h4, h5⟩ := h
 obtain ⟨n, rfl⟩ : ∃ n : Nat, C = n := ⟨C.toNat, by omega⟩
 have ok : ∀ p : Nat, P = p → MOk p X.length n X := fun p hp => by
  subst hp
  exact ⟨rfl, fun i hi => by have := (h5 i hi).1; omega, fun i hi j hj => (h5 i hi).2 j (by have := (h5 i hi).1; omega)⟩
 rcases h1 with e | e | e | e <;> subst e
 ·exact ⟨2, n, inferInstance, rfl, rfl, by omega, by omega, fld2, h4, ok 2 rfl⟩
 ·exact ⟨3, n, inferInstance, rfl, rfl, by omega, by omega, fld3, h4, ok 3 rfl⟩
 ·exact ⟨5, n, inferInstance, rfl, rfl, by omega, by omega, fld5, h4, ok 5 rfl⟩
 ·exact ⟨7, n, inferInstance, rfl, rfl, by omega, by omega, fld7, h4, ok 7 rfl⟩
theorem CM.of {p n : Nat} (hp : p = 2 ∨ p = 3 ∨ p = 5 ∨ p = 7) (hn : n ≤ 8) {r : Nat} (hr : r ≤ 6) {X : List (List Int)} (hX : MOk p r n X) : CM p n X :=
 ⟨by omega, by omega, by omega, by rw [hX.len]; exact hr, fun i hi => by
  rw [hX.len] at hi
  have := hX.row i hi
  exact ⟨by omega, fun j hj => hX.bd i hi j (by omega)⟩⟩
section
variable {p : Nat} [NeZero p]
theorem elm_bit {n s k : Nat} (hk : k < cnt n s) : s.testBit ((elm n s).getD k 0) = true := by
 have hl : k < (elm n s).length := by rw [elm_len]; exact hk
 rw [List.getD_eq_getElem?_getD, List.getElem?_eq_getElem hl]
 have := List.getElem_mem hl
 unfold elm at this
 exact (List.mem_filter.1 this).2
end
theorem rotaref_In_nat (s i : Nat) : rotaref_In s i = some (s.testBit i) := by
 unfold rotaref_In
 rw [chk_pos (by omega)]
 simp only [toNat_nat, shr_nat']
 congr 1
 rw [Nat.testBit_eq_decide_div_mod_eq]
 have : (((s / 2 ^ i : Nat) : Int)).tmod 2 = ((s / 2 ^ i % 2 : Nat) : Int) := tmod_two _
 rw [this]
 rw [Bool.eq_iff_iff, decide_eq_true_eq, decide_eq_true_eq]; omega
theorem rotaref_Elements_nat (s : Nat) : rotaref_Elements s = some (cs (els s)) := by
  refine Gets.eq ?_
  unfold rotaref_Elements
  refine gBind (R := fun o => o = cs (els s)) (gFor 8 (k0 := 0) (fun k x => x.2 = (k : Int) ∧ x.1 = cs ((List.range k).filter fun i => s.testBit i)) (by omega) ⟨rfl, rfl⟩ ?_) fun o ho => gSome ho
  rintro k ⟨_, _⟩ hk ⟨rfl, rfl⟩
  simp only
  refine gIte (fun h1 => ?_) fun h1 => gSome (by have : k = 8 := by omega
                                                 subst this; rfl)
  rw [rotaref_In_nat]
  simp only [Option.bind_some]
  have hle : ((List.range k).filter fun i => s.testBit i).length ≤ k := by
    have := List.length_filter_le (fun i => s.testBit i) (List.range k)
    simpa using this
  refine gIte (fun h2 => gChk (by simp; omega) (gSome ⟨by omega, by simp, ?_⟩)) fun h2 => gSome ⟨by omega, by simp, ?_⟩
  · rw [List.range_succ, List.filter_append, cs_app]; simp [h2]
  · rw [List.range_succ, List.filter_append]; simp [h2]
theorem rotaref_Size_nat (s : Nat) : rotaref_Size s = some ((size s : Nat) : Int) := by
 unfold rotaref_Size
 rw [rotaref_Elements_nat]
 simp [els_len]
def mkset : Nat → (Nat → Bool) → Nat
 | 0, _ => 0
 | m + 1, p => mkset m p ||| (if p m = true then 2 ^ m else 0)
theorem mkset_bit (m : Nat) (p : Nat → Bool) (i : Nat) : (mkset m p).testBit i = (decide (i < m) && p i) := by
 induction m with
 | zero => simp [mkset]
 | succ m ih =>
  rw [mkset, Nat.testBit_or, ih]
  rcases Nat.lt_trichotomy i m with c | c | c
  ·have : (if p m = true then 2 ^ m else 0).testBit i = false := by
    split
    ·rw [testBit_pow]; simp; omega
    ·simp
   rw [this, Bool.or_false]
   simp [c, show i < m + 1 by omega]
  ·subst c
   cases h : p i
   ·simp
   ·simp [testBit_pow]
  ·have : (if p m = true then 2 ^ m else 0).testBit i = false := by
    split
    ·rw [testBit_pow]; simp; omega
    ·simp
   rw [this, Bool.or_false]
   simp [show ¬ i < m by omega, show ¬ i < m + 1 by omega]
theorem mkset_lt (m : Nat) (p : Nat → Bool) : mkset m p < 2 ^ m := lt_of_bits fun i hi => by rw [mkset_bit]; simp; omega
/-- The first k of a list, as a set. -/
def pre (L : List Nat) : Nat → Nat
 | 0 => 0
 | k + 1 => pre L k ||| 2 ^ L.getD k 0
def nb (m : Nat) (L : List Nat) (t : Nat) : Nat := mkset m fun x => (List.range L.length).any fun v => t.testBit v && (L.getD v 0).testBit x
theorem nb_lt (m : Nat) (L : List Nat) (t : Nat) : nb m L t < 2 ^ m := mkset_lt m _
theorem nb_bit (m : Nat) (L : List Nat) (t x : Nat) : (nb m L t).testBit x = true ↔ x < m ∧ ∃ v, v < L.length ∧ t.testBit v = true ∧ (L.getD v 0).testBit x = true := by
 rw [nb, mkset_bit, Bool.and_eq_true, decide_eq_true_eq, List.any_eq_true]
 refine and_congr Iff.rfl ⟨fun ⟨i, h1, h2⟩ => ?_, fun ⟨i, h1, h2, h3⟩ => ⟨i, List.mem_range.2 h1, by rw [h2, h3]; rfl⟩⟩
 rw [Bool.and_eq_true] at h2
 exact ⟨i, List.mem_range.1 h1, h2⟩
theorem HOk.nb_bit {m : Nat} {L : List Nat} (h : HOk m L) (t x : Nat) : (nb m L t).testBit x = true ↔ ∃ v, v < L.length ∧ t.testBit v = true ∧ (L.getD v 0).testBit x = true := by
 rw [Go.SH.nb_bit]
 exact ⟨fun q => q.2, fun ⟨v, h1, h2, h3⟩ => ⟨bit_lt (h.lt v h1) h3, v, h1, h2, h3⟩⟩
theorem getD_setN {L : List Nat} {k j a : Nat} (hk : k < L.length) : (L.set k a).getD j 0 = if j = k then a else L.getD j 0 := by
 rw [List.getD_eq_getElem?_getD, List.getElem?_set, List.getD_eq_getElem?_getD]
 by_cases h : k = j
 ·subst h
  rw [if_pos rfl, if_pos hk, if_pos rfl]; rfl
 ·rw [if_neg h, if_neg (fun e => h e.symm)]
theorem HOk.with {m : Nat} {L O : List Nat} (h : HOk m L) (hl : O.length = L.length) (hi : ∀ j, j < L.length → Inc (O.getD j 0) (L.getD j 0)) : HOk m O :=
 ⟨h.n8, by rw [hl]; exact h.l8, fun k hk => (hi k (by omega)).lt (h.lt k (by omega))⟩
/-- From set k on, behind 'used': a list of elements, each one more of rank. -/
def Ext (R : Nat → Nat) (L : List Nat) : Nat → Nat → List Nat → Prop
 | k, _, [] => k = L.length
 | k, used, i :: e => k < L.length ∧ (L.getD k 0).testBit i = true ∧ R used < R (used ||| 2 ^ i) ∧ Ext R L (k + 1) (used ||| 2 ^ i) e
section
variable {m : Nat} {R : Nat → Nat} {L : List Nat}
/-- What is chosen, set by set. -/
theorem Ext.idx (hR : RkF R) (h : HOk m L) : ∀ {e : List Nat} {k used : Nat}, Ext R L k used e → ∀ q, q < e.length → (L.getD (k + q) 0).testBit (e.getD q 0) = true
 | [], _, _, _, q, hq => absurd hq (by simp)
 | i :: e, k, used, he, 0, _ => he.2.1
 | i :: e, k, used, he, q + 1, hq => by
  have := Ext.idx hR h he.2.2.2 q (by simpa using hq)
  rw [show k + (q + 1) = k + 1 + q by omega]; exact this
theorem Ext.free (hR : RkF R) (h : HOk m L) : ∀ {e : List Nat} {k used : Nat}, Ext R L k used e → used < 2 ^ m → R used = cnt m used → R (used ||| pre e e.length) = cnt m (used ||| pre e e.length) ∧ cnt m (used ||| pre e e.length) = cnt m used + e.length
 | [], k, used, he, hu, hr => by
  have : pre ([] : List Nat) 0 = 0 := rfl
  simp only [List.length_nil, this, Nat.or_zero]
  exact ⟨hr, rfl⟩
 | i :: e, k, used, he, hu, hr => by
  have hi := bit_lt (h.lt k he.1) he.2.1
  have hb : used.testBit i = false := by
   cases q : used.testBit i with
   | false => rfl
   | true =>
    have e0 : used ||| 2 ^ i = used := by rw [Nat.or_comm]; exact (or_eq_iff _ _).2 (inc_pow q)
    have e1 := he.2.2.1
    rw [e0] at e1
    omega
  have hc := cnt_add hi hb
  have hst := hR.step used i
  obtain ⟨a, b⟩ := Ext.free hR h he.2.2.2 (or_lt hu (pow_lt hi)) (by have := he.2.2.1; omega)
  have e1 : used ||| pre (i :: e) (i :: e).length = used ||| 2 ^ i ||| pre e e.length := by
   have key : ∀ n, pre (i :: e) (n + 1) = 2 ^ i ||| pre e n := fun n => by
    induction n with
    | zero => simp [pre]
    | succ n ih => rw [pre, ih, pre, Nat.or_assoc]; simp
   rw [List.length_cons, key, Nat.or_assoc]
  rw [e1]
  refine ⟨a, ?_⟩
  rw [b, hc, List.length_cons]; omega
/-- An element less in a set. -/
theorem rado_less (hR : RkF R) (h : HOk m L) (hC : ∀ s, s < 2 ^ L.length → cnt L.length s ≤ R (nb m L s)) {k x y : Nat} (hk : k < L.length) (hx : (L.getD k 0).testBit x = true) (hy : (L.getD k 0).testBit y = true) (hxy : x ≠ y) :
  (∀ s, s < 2 ^ L.length → cnt L.length s ≤ R (nb m (L.set k (dif (L.getD k 0) (2 ^ x))) s)) ∨ (∀ s, s < 2 ^ L.length → cnt L.length s ≤ R (nb m (L.set k (dif (L.getD k 0) (2 ^ y))) s)) := by
 have hset : ∀ z, HOk m (L.set k (dif (L.getD k 0) (2 ^ z))) := fun z => h.with (by rw [List.length_set]) fun j hj => by
  rw [getD_setN hk]
  split
  ·rename_i c; subst c; exact inc_dif _ _
  ·exact Inc.refl _
 -- a set of sets that fails has k, and without k it has little rank
 have bad : ∀ z, ¬ (∀ s, s < 2 ^ L.length → cnt L.length s ≤ R (nb m (L.set k (dif (L.getD k 0) (2 ^ z))) s)) → ∃ J, J < 2 ^ L.length ∧ J.testBit k = false ∧ R (nb m L J ||| dif (L.getD k 0) (2 ^ z)) ≤ cnt L.length J := by
  intro z hz
  obtain ⟨s, hs, hlt⟩ : ∃ s, s < 2 ^ L.length ∧ R (nb m (L.set k (dif (L.getD k 0) (2 ^ z))) s) < cnt L.length s := by
   rcases Classical.em (∃ s, s < 2 ^ L.length ∧ R (nb m (L.set k (dif (L.getD k 0) (2 ^ z))) s) < cnt L.length s) with c | c
   ·exact c
   ·exact absurd (fun s hs => by
     rcases Nat.lt_or_ge (R (nb m (L.set k (dif (L.getD k 0) (2 ^ z))) s)) (cnt L.length s) with d | d
     ·exact absurd ⟨s, hs, d⟩ c
     ·exact d) hz
  have hks : s.testBit k = true := by
   cases q : s.testBit k with
   | true => rfl
   | false =>
    exfalso
    have e : nb m (L.set k (dif (L.getD k 0) (2 ^ z))) s = nb m L s := bx fun x => by
     rw [Bool.eq_iff_iff, (hset z).nb_bit, h.nb_bit, List.length_set]
     refine exists_congr fun v => and_congr_right fun hv => and_congr_right fun hsv => ?_
     rw [getD_setN hk, if_neg (fun e => by subst e; rw [q] at hsv; cases hsv)]
    rw [e] at hlt
    have := hC s hs
    omega
  refine ⟨dif s (2 ^ k), dif_lt hs, by rw [testBit_dif, testBit_pow]; simp, ?_⟩
  have e : nb m L (dif s (2 ^ k)) ||| dif (L.getD k 0) (2 ^ z) = nb m (L.set k (dif (L.getD k 0) (2 ^ z))) s := bx fun x => by
   rw [Bool.eq_iff_iff, Nat.testBit_or, Bool.or_eq_true, (hset z).nb_bit, h.nb_bit, List.length_set]
   constructor
   ·rintro (⟨v, v1, v2, v3⟩ | q)
    ·rw [testBit_dif, testBit_pow, Bool.and_eq_true, Bool.not_eq_true', decide_eq_false_iff_not] at v2
     exact ⟨v, v1, v2.1, by rw [getD_setN hk, if_neg (fun e => v2.2 e.symm)]; exact v3⟩
    ·exact ⟨k, hk, hks, by rw [getD_setN hk, if_pos rfl]; exact q⟩
   ·rintro ⟨v, v1, v2, v3⟩
    rw [getD_setN hk] at v3
    split at v3
    ·exact .inr v3
    ·rename_i c
     exact .inl ⟨v, v1, by rw [testBit_dif, v2, testBit_pow]; simp; exact fun e => c e.symm, v3⟩
  rw [e]
  have := cnt_dif hs hks
  omega
 rcases Classical.em (∀ s, s < 2 ^ L.length → cnt L.length s ≤ R (nb m (L.set k (dif (L.getD k 0) (2 ^ x))) s)) with c | c
 ·exact .inl c
 rcases Classical.em (∀ s, s < 2 ^ L.length → cnt L.length s ≤ R (nb m (L.set k (dif (L.getD k 0) (2 ^ y))) s)) with d | d
 ·exact .inr d
 exfalso
 obtain ⟨J1, a1, a2, a3⟩ := bad x c
 obtain ⟨J2, b1, b2, b3⟩ := bad y d
 have s1 := hR.sub (nb m L J1 ||| dif (L.getD k 0) (2 ^ x)) (nb m L J2 ||| dif (L.getD k 0) (2 ^ y))
 have hnk : (J1 ||| J2).testBit k = false := by rw [Nat.testBit_or, a2, b2]; rfl
 have c1 := hC ((J1 ||| J2) ||| 2 ^ k) (or_lt (or_lt a1 b1) (pow_lt hk))
 have c2 := hC (J1 &&& J2) (and_lt a1)
 rw [cnt_add hk hnk] at c1
 have c3 := cnt_or_and L.length J1 J2
 have m1 : R (nb m L ((J1 ||| J2) ||| 2 ^ k)) ≤ R (nb m L J1 ||| dif (L.getD k 0) (2 ^ x) ||| (nb m L J2 ||| dif (L.getD k 0) (2 ^ y))) := hR.mono _ _ fun z hz => by
  obtain ⟨v, v1, v2, v3⟩ := (h.nb_bit _ z).1 hz
  rw [Nat.testBit_or, Nat.testBit_or, Bool.or_eq_true, Bool.or_eq_true, testBit_pow, decide_eq_true_eq] at v2
  rw [Nat.testBit_or, Nat.testBit_or, Nat.testBit_or, Bool.or_eq_true, Bool.or_eq_true, Bool.or_eq_true]
  rcases v2 with (v2 | v2) | v2
  ·exact .inl (.inl ((h.nb_bit _ z).2 ⟨v, v1, v2, v3⟩))
  ·exact .inr (.inl ((h.nb_bit _ z).2 ⟨v, v1, v2, v3⟩))
  ·subst v2
   rcases Classical.em (z = x) with e | e
   ·exact .inr (.inr (by rw [testBit_dif, v3, testBit_pow]; simp; omega))
   ·exact .inl (.inr (by rw [testBit_dif, v3, testBit_pow]; simp; omega))
 have m2 : R (nb m L (J1 &&& J2)) ≤ R ((nb m L J1 ||| dif (L.getD k 0) (2 ^ x)) &&& (nb m L J2 ||| dif (L.getD k 0) (2 ^ y))) := hR.mono _ _ fun z hz => by
  obtain ⟨v, v1, v2, v3⟩ := (h.nb_bit _ z).1 hz
  rw [Nat.testBit_and, Bool.and_eq_true] at v2
  rw [Nat.testBit_and, Nat.testBit_or, Nat.testBit_or, (h.nb_bit J1 z).2 ⟨v, v1, v2.1, v3⟩, (h.nb_bit J2 z).2 ⟨v, v1, v2.2, v3⟩]; rfl
 omega
theorem set_self {k : Nat} (hk : k < L.length) : L.set k (L.getD k 0) = L := by
 apply List.ext_getElem?
 intro j
 rw [List.getElem?_set]
 split
 ·rename_i c; subst c; rw [List.getD_eq_getElem?_getD, List.getElem?_eq_getElem hk]; rfl
 ·rfl
/-- One set down to one element. -/
theorem rado_one (hR : RkF R) {k : Nat} : ∀ (n : Nat) (L : List Nat), HOk m L → (∀ s, s < 2 ^ L.length → cnt L.length s ≤ R (nb m L s)) → k < L.length → cnt m (L.getD k 0) ≤ n → ∃ x, (L.getD k 0).testBit x = true ∧ ∀ s, s < 2 ^ L.length → cnt L.length s ≤ R (nb m (L.set k (2 ^ x)) s)
 | n, L, h, hC, hk, hn => by
  have hlk := h.lt k hk
  have h1 := hC (2 ^ k) (pow_lt hk)
  have e1 : nb m L (2 ^ k) = L.getD k 0 := bx fun x => by
   rw [Bool.eq_iff_iff, h.nb_bit]
   constructor
   ·rintro ⟨v, _, v2, v3⟩
    rw [testBit_pow, decide_eq_true_eq] at v2
    subst v2; exact v3
   ·intro hx; exact ⟨k, hk, by rw [testBit_pow]; simp, hx⟩
  have e2 : cnt L.length (2 ^ k) = 1 := by
   have := cnt_add (m := L.length) (s := 0) hk (by simp)
   rwa [Nat.zero_or, cnt_zero] at this
  have hne : L.getD k 0 ≠ 0 := fun e => by rw [e1, e, hR.zero] at h1; omega
  obtain ⟨x, hx⟩ := exists_bit hne
  have hcx := cnt_dif hlk hx
  rcases Classical.em (dif (L.getD k 0) (2 ^ x) = 0) with c | c
  ·refine ⟨x, hx, ?_⟩
   have e : 2 ^ x = L.getD k 0 := by
    have := dif_or hx
    rw [c, Nat.zero_or] at this; exact this
   rw [e, set_self hk]; exact hC
  ·obtain ⟨y, hy⟩ := exists_bit c
   rw [testBit_dif, testBit_pow, Bool.and_eq_true, Bool.not_eq_true', decide_eq_false_iff_not] at hy
   have hcy := cnt_dif hlk hy.1
   match n, hn with
   | 0, hn => omega
   | n + 1, hn =>
    have step : ∀ z, (L.getD k 0).testBit z = true → cnt m (dif (L.getD k 0) (2 ^ z)) ≤ n → (∀ s, s < 2 ^ L.length → cnt L.length s ≤ R (nb m (L.set k (dif (L.getD k 0) (2 ^ z))) s)) → ∃ x, (L.getD k 0).testBit x = true ∧ ∀ s, s < 2 ^ L.length → cnt L.length s ≤ R (nb m (L.set k (2 ^ x)) s) := fun z hz hcz hCz => by
     have hset : HOk m (L.set k (dif (L.getD k 0) (2 ^ z))) := h.with (by rw [List.length_set]) fun j hj => by
      rw [getD_setN hk]
      split
      ·rename_i c; subst c; exact inc_dif _ _
      ·exact Inc.refl _
     obtain ⟨w, w1, w2⟩ := rado_one hR n (L.set k (dif (L.getD k 0) (2 ^ z))) hset (by rw [List.length_set]; exact hCz) (by rw [List.length_set]; exact hk) (by rw [getD_setN hk, if_pos rfl]; exact hcz)
     rw [getD_setN hk, if_pos rfl] at w1
     rw [List.length_set, List.set_set] at w2
     exact ⟨w, inc_dif _ _ w w1, w2⟩
    rcases rado_less hR h hC hk hx hy.1 hy.2 with d | d
    ·exact step x hx (by omega) d
    ·exact step y hy.1 (by omega) d
theorem rado_all (hR : RkF R) (h : HOk m L) (hC : ∀ s, s < 2 ^ L.length → cnt L.length s ≤ R (nb m L s)) : ∀ n, n ≤ L.length → ∃ L' : List Nat, L'.length = L.length ∧ (∀ j, j < n → ∃ x, (L.getD j 0).testBit x = true ∧ L'.getD j 0 = 2 ^ x) ∧ (∀ j, n ≤ j → L'.getD j 0 = L.getD j 0) ∧ (∀ s, s < 2 ^ L.length → cnt L.length s ≤ R (nb m L' s))
 | 0, _ => ⟨L, rfl, none_all, fun _ _ => rfl, hC⟩
 | n + 1, hn => by
  obtain ⟨L', l1, l2, l3, l4⟩ := rado_all hR h hC n (by omega)
  have hL' : HOk m L' := h.with l1 fun j hj => by
   rcases Nat.lt_or_ge j n with c | c
   ·obtain ⟨x, x1, x2⟩ := l2 j c
    rw [x2]; exact inc_pow x1
   ·rw [l3 j c]; exact Inc.refl _
  obtain ⟨x, x1, x2⟩ := rado_one hR (k := n) (cnt m (L'.getD n 0)) L' hL' (by rw [l1]; exact l4) (by omega) (Nat.le_refl _)
  rw [l3 n (Nat.le_refl _)] at x1
  rw [l1] at x2
  refine ⟨L'.set n (2 ^ x), by rw [List.length_set, l1], fun j hj => ?_, fun j hj => ?_, x2⟩
  ·rw [getD_setN (by omega)]
   rcases Nat.lt_succ_iff_lt_or_eq.1 hj with c | c
   ·rw [if_neg (by omega)]; exact l2 j c
   ·subst c; exact ⟨x, x1, by rw [if_pos rfl]⟩
  ·rw [getD_setN (by omega), if_neg (by omega)]; exact l3 j (by omega)
/-- RADO. -/
theorem rado (hR : RkF R) (h : HOk m L) (hC : ∀ s, s < 2 ^ L.length → cnt L.length s ≤ R (nb m L s)) : ∃ e, Ext R L 0 0 e := by
 obtain ⟨L', l1, l2, _, l4⟩ := rado_all hR h hC L.length (Nat.le_refl _)
 have hm8 := h.n8
 have hp8 : 2 ^ m ≤ 2 ^ 8 := Nat.pow_le_pow_right (by omega) hm8
 have ex : ∀ j, ∃ x, j < L.length → (L.getD j 0).testBit x = true ∧ L'.getD j 0 = 2 ^ x := fun j => by
  rcases Nat.lt_or_ge j L.length with c | c
  ·obtain ⟨x, hx⟩ := l2 j c; exact ⟨x, fun _ => hx⟩
  ·exact ⟨0, fun q => absurd q (by omega)⟩
 obtain ⟨g, hg⟩ := Classical.axiomOfChoice ex
 have hL' : HOk m L' := h.with l1 fun j hj => by rw [(hg j hj).2]; exact inc_pow (hg j hj).1
 have gm : ∀ j, j < L.length → g j < m := fun j hj => bit_lt (h.lt j hj) (hg j hj).1
 -- what the first ones choose
 have pg : ∃ u : Nat → Nat, u 0 = 0 ∧ (∀ k, u (k + 1) = u k ||| 2 ^ g k) ∧ ∀ k i, (u k).testBit i = true ↔ ∃ j, j < k ∧ g j = i := by
  refine ⟨fun k => Nat.rec 0 (fun k a => a ||| 2 ^ g k) k, rfl, fun k => rfl, fun k i => ?_⟩
  induction k with
  | zero => exact ⟨fun q => absurd q (by show ¬ (0 : Nat).testBit i = true; simp), fun ⟨j, h, _⟩ => absurd h (by omega)⟩
  | succ k ih =>
   show ((Nat.rec 0 (fun k a => a ||| 2 ^ g k) k : Nat) ||| 2 ^ g k).testBit i = true ↔ _
   rw [Nat.testBit_or, testBit_pow, Bool.or_eq_true, ih, decide_eq_true_eq]
   constructor
   ·rintro (⟨j, h1, h2⟩ | h)
    ·exact ⟨j, by omega, h2⟩
    ·exact ⟨k, by omega, h⟩
   ·rintro ⟨j, h1, h2⟩
    rcases Nat.lt_succ_iff_lt_or_eq.1 h1 with c | c
    ·exact .inl ⟨j, c, h2⟩
    ·subst c; exact .inr h2
 obtain ⟨u, u0, us, ub⟩ := pg
 have ul : ∀ k, k ≤ L.length → u k < 2 ^ m := fun k hk => lt_of_bits fun i hi => by
  cases q : (u k).testBit i with
  | false => rfl
  | true =>
   obtain ⟨j, j1, j2⟩ := (ub k i).1 q
   have := gm j (by omega)
   omega
 have hcl : ∀ k, k ≤ L.length → cnt m (u k) ≤ k := fun k => by
  induction k with
  | zero => intro _; rw [u0, cnt_zero]; omega
  | succ k ih =>
   intro hk
   have := ih (by omega)
   rw [us]
   have h1 := cnt_or_and m (u k) (2 ^ g k)
   have h2 := cnt_add (m := m) (s := 0) (gm k (by omega)) (by simp)
   rw [Nat.zero_or, cnt_zero] at h2
   omega
 have hge : ∀ k, k ≤ L.length → k ≤ R (u k) := fun k hk => by
  have hs : 2 ^ k - 1 < 2 ^ L.length := by
   have h1 : 2 ^ k ≤ 2 ^ L.length := Nat.pow_le_pow_right (by omega) hk
   have h2 : 0 < 2 ^ k := Nat.pow_pos (by omega)
   omega
  have := l4 (2 ^ k - 1) hs
  have e1 : cnt L.length (2 ^ k - 1) = k := by
   have hlt : 2 ^ k - 1 < 2 ^ k := by have h2 : 0 < 2 ^ k := Nat.pow_pos (by omega); omega
   rw [cnt_of_lt hlt hk]
   have := cpl_cnt (m := k) (s := 0)
   rw [cnt_zero] at this
   have e : cpl k 0 = 2 ^ k - 1 := set_ext (cpl_lt _ _) (full_lt k) fun i hi => by rw [cpl_bit, full_bit]; simp
   rw [e] at this; omega
  have e2 : nb m L' (2 ^ k - 1) = u k := bx fun i => by
   rw [Bool.eq_iff_iff, hL'.nb_bit, ub, l1]
   constructor
   ·rintro ⟨v, v1, v2, v3⟩
    rw [full_bit, decide_eq_true_eq] at v2
    rw [(hg v v1).2, testBit_pow, decide_eq_true_eq] at v3
    exact ⟨v, v2, v3⟩
   ·rintro ⟨j, j1, j2⟩
    exact ⟨j, by omega, by rw [full_bit]; simp [j1], by rw [(hg j (by omega)).2, testBit_pow, j2]; simp⟩
  rw [e1, e2] at this; exact this
 have hup : ∀ k, k ≤ L.length → R (u k) ≤ k := fun k hk => by
  have := hR.le (b := u k) (by have := ul k hk; omega)
  rw [cnt8 hm8 (ul k hk)] at this
  have := hcl k hk
  omega
 have key : ∀ d k, k + d = L.length → ∃ e, Ext R L k (u k) e := fun d => by
  induction d with
  | zero => intro k hk; exact ⟨[], hk⟩
  | succ d ih =>
   intro k hk
   obtain ⟨e, he⟩ := ih (k + 1) (by omega)
   refine ⟨g k :: e, by omega, (hg k (by omega)).1, ?_, by rw [← us]; exact he⟩
   rw [← us]
   have := hge (k + 1) (by omega)
   have := hup k (by omega)
   omega
 have := key L.length 0 (by omega)
 rw [u0] at this; exact this
end
theorem dif_or3 (a b s : Nat) : dif (a ||| b) s = dif a s ||| dif b s := bx fun j => by
 rw [testBit_dif, Nat.testBit_or, Nat.testBit_or, testBit_dif, testBit_dif]
 cases a.testBit j <;> cases b.testBit j <;> cases s.testBit j <;> rfl
theorem dif_and (a b s : Nat) : dif (a &&& b) s = dif a s &&& dif b s := bx fun j => by
 rw [testBit_dif, Nat.testBit_and, Nat.testBit_and, testBit_dif, testBit_dif]
 cases a.testBit j <;> cases b.testBit j <;> cases s.testBit j <;> rfl
theorem outR (s : Nat) : RkF (fun X => cnt 8 (dif X s)) where
 zero := by
  show cnt 8 (dif 0 s) = 0
  rw [show dif 0 s = 0 from bx fun j => by rw [testBit_dif]; simp, cnt_zero]
 mono := fun a b h => cnt_le_of_inc fun i hi => by
  rw [testBit_dif, Bool.and_eq_true] at hi ⊢
  exact ⟨h i hi.1, hi.2⟩
 step := fun a i => by
  show cnt 8 (dif (a ||| 2 ^ i) s) ≤ cnt 8 (dif a s) + 1
  rw [dif_or3]
  have h1 := cnt_or_and 8 (dif a s) (dif (2 ^ i) s)
  have h2 : cnt 8 (dif (2 ^ i) s) ≤ 1 := by
   have h3 := cnt_le_of_inc (m := 8) (inc_dif (2 ^ i) s)
   have h4 : cnt 8 (2 ^ i) ≤ 1 := by
    rcases Nat.lt_or_ge i 8 with c | c
    ·have := cnt_add (m := 8) (s := 0) c (by simp)
     rw [Nat.zero_or, cnt_zero] at this
     omega
    ·have e : cnt 8 (2 ^ i) = cnt 8 0 := cnt_congr fun j hj => by rw [testBit_pow]; simp; omega
     rw [e, cnt_zero]; omega
   omega
  omega
 sub := fun a b => by
  show cnt 8 (dif (a ||| b) s) + cnt 8 (dif (a &&& b) s) ≤ cnt 8 (dif a s) + cnt 8 (dif b s)
  rw [dif_or3, dif_and]
  exact Nat.le_of_eq (cnt_or_and 8 _ _)
theorem Ext.inj {s : Nat} {L : List Nat} : ∀ {e : List Nat} {k used : Nat}, Ext (fun X => cnt 8 (dif X s)) L k used e → ∀ q, q < e.length → s.testBit (e.getD q 0) = false ∧ used.testBit (e.getD q 0) = false ∧ ∀ r, r < q → e.getD r 0 ≠ e.getD q 0
 | [], k, used, _, q, hq => by simp at hq
 | i :: e, k, used, h, q, hq => by
  obtain ⟨_, _, h3, h4⟩ := h
  have hi : s.testBit i = false ∧ used.testBit i = false := by
   have bad : (s.testBit i = true ∨ used.testBit i = true) → False := fun w => by
    have e : dif (used ||| 2 ^ i) s = dif used s := bx fun j => by
     rw [testBit_dif, testBit_dif, Nat.testBit_or, testBit_pow]
     by_cases c : i = j
     ·subst c
      rcases w with w | w
      ·rw [w]; simp
      ·rw [w]; simp
     ·simp [c]
    simp only [e] at h3
    exact absurd h3 (Nat.lt_irrefl _)
   constructor
   ·cases c : s.testBit i with
    | false => rfl
    | true => exact (bad (.inl c)).elim
   ·cases c : used.testBit i with
    | false => rfl
    | true => exact (bad (.inr c)).elim
  cases q with
  | zero => exact ⟨hi.1, hi.2, fun r hr => by omega⟩
  | succ q =>
   obtain ⟨a, b, c⟩ := Ext.inj h4 q (by simpa using hq)
   rw [Nat.testBit_or, testBit_pow, Bool.or_eq_false_iff, decide_eq_false_iff_not] at b
   refine ⟨a, b.1, fun r hr => ?_⟩
   cases r with
   | zero => exact b.2
   | succ r => exact c r (by omega)
theorem Ext.cnt {R : Nat → Nat} {L : List Nat} : ∀ {e : List Nat} {k used : Nat}, Ext R L k used e → k + e.length = L.length
 | [], k, used, h => h
 | i :: e, k, used, h => by have := Ext.cnt h.2.2.2; simp only [List.length_cons]; omega
/-- HALL: representatives outside a set. -/
theorem hall {m s : Nat} {L : List Nat} (h : HOk m L) (hC : ∀ J, J < 2 ^ L.length → cnt L.length J ≤ Go.SH.cnt m (dif (nb m L J) s)) : ∃ g : Nat → Nat, (∀ k, k < L.length → (L.getD k 0).testBit (g k) = true ∧ s.testBit (g k) = false) ∧ ∀ j k, j < L.length → k < L.length → g j = g k → j = k := by
 have hm8 := h.n8
 obtain ⟨e, he⟩ := rado (R := fun X => Go.SH.cnt 8 (dif X s)) (outR s) h fun J hJ => by
  rw [cnt8 hm8 (dif_lt (nb_lt m L J))]; exact hC J hJ
 have hl := he.cnt
 have hi := he.inj
 have hx := Ext.idx (outR s) h he
 refine ⟨fun k => e.getD k 0, fun k hk => ⟨?_, (hi k (by omega)).1⟩, fun j k hj hk q => ?_⟩
 ·have := hx k (by omega)
  rwa [Nat.zero_add] at this
 ·rcases Nat.lt_trichotomy j k with c | c | c
  ·exact absurd q ((hi k (by omega)).2.2 j c)
  ·exact c
  ·exact absurd q.symm ((hi j (by omega)).2.2 k c)
def sm : Nat → (Nat → Int) → Int
 | 0, _ => 0
 | n + 1, f => sm n f + f n
theorem sm_congr {f g : Nat → Int} : ∀ {n : Nat}, (∀ i, i < n → f i = g i) → sm n f = sm n g
 | 0, _ => rfl
 | n + 1, h => by rw [sm, sm, sm_congr fun i hi => h i (by omega), h n (by omega)]
theorem sm_add (f g : Nat → Int) : ∀ n, sm n (fun i => f i + g i) = sm n f + sm n g
 | 0 => rfl
 | n + 1 => by simp only [sm]; rw [sm_add f g n]; omega
theorem sm_zero {f : Nat → Int} : ∀ {n : Nat}, (∀ i, i < n → f i = 0) → sm n f = 0
 | 0, _ => rfl
 | n + 1, h => by simp only [sm]; rw [sm_zero fun i hi => h i (by omega), h n (by omega)]; rfl
theorem sm_le {f g : Nat → Int} : ∀ {n : Nat}, (∀ i, i < n → f i ≤ g i) → sm n f ≤ sm n g
 | 0, _ => Int.le_refl _
 | n + 1, h => by
  simp only [sm]
  have := sm_le (n := n) fun i hi => h i (by omega)
  have := h n (by omega)
  omega
theorem sm_one {f : Nat → Int} {k : Nat} : ∀ {n : Nat}, k < n → (∀ i, i < n → i ≠ k → f i = 0) → sm n f = f k
 | 0, h, _ => by omega
 | n + 1, h, hz => by
  simp only [sm]
  rcases Nat.lt_succ_iff_lt_or_eq.1 h with q | q
  ·rw [sm_one q fun i hi hn => hz i (by omega) hn, hz n (by omega) (by omega)]; omega
  ·subst q
   rw [sm_zero fun i hi => hz i (by omega) (by omega)]; omega
theorem sm_comm (f : Nat → Nat → Int) (m : Nat) : ∀ n, sm n (fun i => sm m (fun j => f i j)) = sm m (fun j => sm n (fun i => f i j))
 | 0 => (sm_zero fun _ _ => rfl).symm
 | n + 1 => by simp only [sm]; rw [sm_comm f m n, ← sm_add]
theorem sm_nn {f : Nat → Int} {n : Nat} (h : ∀ i, i < n → 0 ≤ f i) : 0 ≤ sm n f := by
 have := sm_le (f := fun _ => 0) h
 rw [sm_zero fun _ _ => rfl] at this
 exact this
/-- What may go out of a set. -/
def outS (m : Nat) (p : Nat → Nat → Int) (S : Nat → Bool) : Int := sm m (fun i => if S i = true then sm m (fun j => if S j = true then 0 else p i j) else 0)
def innS (m : Nat) (p : Nat → Nat → Int) (S : Nat → Bool) : Int := sm m (fun i => sm m (fun j => if S i = true ∧ S j = true then p i j else 0))
theorem rows_split (m : Nat) (p : Nat → Nat → Int) (S : Nat → Bool) : sm m (fun i => if S i = true then sm m (p i) else 0) = outS m p S + innS m p S := by
 unfold outS innS
 rw [← sm_add]
 refine sm_congr fun i hi => ?_
 by_cases c : S i = true
 ·simp only [c, if_true, true_and]
  rw [← sm_add]
  refine sm_congr fun j hj => ?_
  by_cases d : S j = true
  ·simp [d]
  ·simp [d]
 ·rw [if_neg c, if_neg c, sm_zero fun j hj => if_neg (fun w => c w.1)]; rfl
theorem inn_sym {m : Nat} {p q : Nat → Nat → Int} (S : Nat → Bool) (h : ∀ i, i < m → ∀ j, j < m → p i j + p j i = q i j + q j i) : innS m p S = innS m q S := by
 have two : ∀ r : Nat → Nat → Int, innS m r S + innS m r S = sm m (fun i => sm m (fun j => if S i = true ∧ S j = true then r i j + r j i else 0)) := fun r => by
  have e : innS m r S = sm m (fun i => sm m (fun j => if S j = true ∧ S i = true then r j i else 0)) := by
   unfold innS; rw [sm_comm]
  rw [show innS m r S + innS m r S = innS m r S + sm m (fun i => sm m (fun j => if S j = true ∧ S i = true then r j i else 0)) by rw [← e]]
  unfold innS
  rw [← sm_add]
  refine sm_congr fun i hi => ?_
  rw [← sm_add]
  refine sm_congr fun j hj => ?_
  by_cases c : S i = true ∧ S j = true
  ·rw [if_pos c, if_pos ⟨c.2, c.1⟩, if_pos c]
  ·rw [if_neg c, if_neg (fun w => c ⟨w.2, w.1⟩), if_neg c]; rfl
 have a := two p
 have b := two q
 rw [sm_congr (g := fun i => sm m (fun j => if S i = true ∧ S j = true then q i j + q j i else 0)) fun i hi => sm_congr fun j hj => by rw [h i hi j hj]] at a
 omega
/-- What goes through is the same for each cut. -/
theorem cut_val {m : Nat} {p p0 : Nat → Nat → Int} {n : Int} (hm : 2 ≤ m) (hs : ∀ i, i < m → ∀ j, j < m → p i j + p j i = p0 i j + p0 j i)
  (hr : ∀ i, i < m → sm m (p i) = sm m (p0 i) + ((if i = 0 then - n else 0) + (if i = 1 then n else 0))) {S : Nat → Bool} (h0 : S 0 = true) (h1 : S 1 = false) : outS m p0 S = n + outS m p S := by
 have a := rows_split m p S
 have b := rows_split m p0 S
 have c := inn_sym S hs
 have e : sm m (fun i => if S i = true then sm m (p i) else 0) = sm m (fun i => if S i = true then sm m (p0 i) else 0) + - n := by
  have f : sm m (fun i => if S i = true then ((if i = 0 then - n else 0) + (if i = 1 then n else 0)) else 0) = - n := by
   rw [sm_one (k := 0) (by omega) fun i hi hne => ?_]
   ·simp [h0]
   ·by_cases w : i = 1
    ·subst w; simp [h1]
    ·simp [hne, w]
  rw [← f, ← sm_add]
  refine sm_congr fun i hi => ?_
  by_cases w : S i = true
  ·rw [if_pos w, if_pos w, if_pos w, hr i hi]
  ·rw [if_neg w, if_neg w, if_neg w]; rfl
 omega
theorem out_nn {m : Nat} {p : Nat → Nat → Int} (h : ∀ i, i < m → ∀ j, j < m → 0 ≤ p i j) (S : Nat → Bool) : 0 ≤ outS m p S := sm_nn fun i hi => by
 split
 ·exact sm_nn fun j hj => by
   split
   ·exact Int.le_refl _
   ·exact h i hi j hj
 ·exact Int.le_refl _
theorem out_zero {m : Nat} {p : Nat → Nat → Int} {S : Nat → Bool} (h : ∀ i, i < m → ∀ j, j < m → S i = true → S j = false → p i j = 0) : outS m p S = 0 := sm_zero fun i hi => by
 by_cases c : S i = true
 ·rw [if_pos c]
  refine sm_zero fun j hj => ?_
  by_cases d : S j = true
  ·rw [if_pos d]
  ·rw [if_neg d]; exact h i hi j hj c (by simpa using d)
 ·rw [if_neg c]
/-- A flow of n that cannot be made greater: the least cut's. -/
structure Flow (m : Nat) (p0 p : Nat → Nat → Int) (n : Int) : Prop where
 nn : ∀ i, i < m → ∀ j, j < m → 0 ≤ p i j
 sym : ∀ i, i < m → ∀ j, j < m → p i j + p j i = p0 i j + p0 j i
 row : ∀ i, i < m → sm m (p i) = sm m (p0 i) + ((if i = 0 then - n else 0) + (if i = 1 then n else 0))
def Least (m : Nat) (p0 : Nat → Nat → Int) (n : Int) : Prop := (∀ S : Nat → Bool, S 0 = true → S 1 = false → n ≤ outS m p0 S) ∧ ∃ S : Nat → Bool, S 0 = true ∧ S 1 = false ∧ outS m p0 S = n
theorem Flow.le {m : Nat} {p0 p : Nat → Nat → Int} {n : Int} (hm : 2 ≤ m) (h : Flow m p0 p n) (S : Nat → Bool) (h0 : S 0 = true) (h1 : S 1 = false) : n ≤ outS m p0 S := by
 rw [cut_val hm h.sym h.row h0 h1]
 have := out_nn h.nn S
 omega
theorem Flow.least {m : Nat} {p0 p : Nat → Nat → Int} {n : Int} (hm : 2 ≤ m) (h : Flow m p0 p n) {S : Nat → Bool} (h0 : S 0 = true) (h1 : S 1 = false) (hz : ∀ i, i < m → ∀ j, j < m → S i = true → S j = false → p i j = 0) : Least m p0 n := by
 refine ⟨fun T a b => h.le hm T a b, S, h0, h1, ?_⟩
 rw [cut_val hm h.sym h.row h0 h1, out_zero hz]; omega
theorem Flow.start {m : Nat} {p0 : Nat → Nat → Int} (h : ∀ i, i < m → ∀ j, j < m → 0 ≤ p0 i j) : Flow m p0 p0 0 := ⟨h, fun _ _ _ _ => rfl, fun i hi => by simp⟩
theorem Least.eq {m m' : Nat} {p q : Nat → Nat → Int} {n k : Int} (h : Least m p n) (h' : Least m' q k) (a : ∀ S : Nat → Bool, S 0 = true → S 1 = false → ∃ T : Nat → Bool, T 0 = true ∧ T 1 = false ∧ outS m' q T ≤ outS m p S)
  (b : ∀ S : Nat → Bool, S 0 = true → S 1 = false → ∃ T : Nat → Bool, T 0 = true ∧ T 1 = false ∧ outS m p T ≤ outS m' q S) : n = k := by
 obtain ⟨h1, S, s0, s1, s2⟩ := h
 obtain ⟨h2, T, t0, t1, t2⟩ := h'
 obtain ⟨U, u0, u1, u2⟩ := a S s0 s1
 obtain ⟨V, v0, v1, v2⟩ := b T t0 t1
 have := h1 V v0 v1
 have := h2 U u0 u1
 omega
/-- A square of numbers. -/
def en (X : List (List Int)) (i j : Nat) : Int := (X.getD i []).getD j 0
structure Sq (m : Nat) (X : List (List Int)) : Prop where
 len : X.length = m
 row : ∀ i, i < m → (X.getD i []).length = m
theorem rowGet {X : List (List Int)} {i : Nat} (R : List Int) (hi : i < X.length) (a : Nat) : (X.set i R).getD a [] = if a = i then R else X.getD a [] := by
 simp only [List.getD_eq_getElem?_getD, List.getElem?_set]
 by_cases e : i = a
 ·subst e; simp [hi]
 ·rw [if_neg e, if_neg (fun e' => e e'.symm)]
theorem numGet {l : List Int} {k : Nat} (v : Int) (hk : k < l.length) (j : Nat) : (l.set k v).getD j 0 = if j = k then v else l.getD j 0 := by
 simp only [List.getD_eq_getElem?_getD, List.getElem?_set]
 by_cases e : k = j
 ·subst e; simp [hk]
 ·rw [if_neg e, if_neg (fun e' => e e'.symm)]
theorem Sq.put {m : Nat} {X : List (List Int)} (h : Sq m X) {i j : Nat} (v : Int) (hi : i < m) : Sq m (X.set i ((X.getD i []).set j v)) := by
 refine ⟨by rw [List.length_set]; exact h.len, fun a ha => ?_⟩
 rw [rowGet _ (by rw [h.len]; exact hi)]
 by_cases e : a = i
 ·rw [if_pos e, List.length_set]; exact h.row i hi
 ·rw [if_neg e]; exact h.row a ha
theorem Sq.get {m : Nat} {X : List (List Int)} (h : Sq m X) {i j : Nat} (v : Int) (hi : i < m) (hj : j < m) (a b : Nat) : en (X.set i ((X.getD i []).set j v)) a b = if a = i ∧ b = j then v else en X a b := by
 unfold en
 rw [rowGet _ (by rw [h.len]; exact hi)]
 by_cases e : a = i
 ·rw [if_pos e, numGet _ (by rw [h.row i hi]; exact hj)]
  by_cases e2 : b = j
  ·rw [if_pos e2, if_pos ⟨e, e2⟩]
  ·rw [if_neg e2, if_neg (fun w => e2 w.2), e]
 ·rw [if_neg e, if_neg (fun w => e w.1)]
theorem zeros_sq (m k : Nat) (hk : k ≤ m) : ∀ a, a < k → (List.replicate k (List.replicate m (0 : Int))).getD a [] = List.replicate m 0 := fun a ha => by
 rw [List.getD_eq_getElem?_getD, List.getElem?_replicate, if_pos ha]; rfl
theorem zero_getD (m a : Nat) : (List.replicate m (0 : Int)).getD a 0 = 0 := by
 simp only [List.getD_eq_getElem?_getD, List.getElem?_replicate]; split <;> rfl
def bitZ (s v : Nat) : Int := if s.testBit v = true then 1 else 0
/-- The network: 0 to the entrances of 'from', an entrance to its exit, exits of 'to' to 1, exits to entrances along the edges (k vertices and l edges of it). -/
noncomputable def lay (E : List (Int × Int)) (s t k l i j : Nat) : Int :=
 open Classical in
 if i % 2 = 0 ∧ 2 ≤ i ∧ j = i + 1 ∧ i < 2 + 2 * k then 1
 else if i = 0 ∧ j % 2 = 0 ∧ 2 ≤ j ∧ j < 2 + 2 * k then bitZ s (j / 2 - 1)
 else if j = 1 ∧ i % 2 = 1 ∧ 3 ≤ i ∧ i < 3 + 2 * k then bitZ t (i / 2 - 1)
 else if ∃ e, e < l ∧ i = 3 + 2 * hA E e ∧ j = 2 + 2 * hB E e then 1
 else 0
theorem lay_zero (E : List (Int × Int)) (s t i j : Nat) : lay E s t 0 0 i j = 0 := by
 unfold lay
 rw [if_neg (by omega), if_neg (by omega), if_neg (by omega), if_neg (fun ⟨e, h, _⟩ => by omega)]
theorem lay_vert (E : List (Int × Int)) (s t k a b : Nat) : lay E s t (k + 1) 0 a b = if a = 3 + 2 * k ∧ b = 1 then bitZ t k else if a = 0 ∧ b = 2 + 2 * k then bitZ s k else if a = 2 + 2 * k ∧ b = 3 + 2 * k then 1 else lay E s t k 0 a b := by
 have hn : ¬ ∃ e, e < 0 ∧ a = 3 + 2 * hA E e ∧ b = 2 + 2 * hB E e := fun ⟨e, h, _⟩ => by omega
 by_cases c1 : a = 3 + 2 * k ∧ b = 1
 ·rw [if_pos c1]; unfold lay
  rw [if_neg (by omega), if_neg (by omega), if_pos (by omega), show a / 2 - 1 = k by omega]
 ·rw [if_neg c1]
  by_cases c2 : a = 0 ∧ b = 2 + 2 * k
  ·rw [if_pos c2]; unfold lay
   rw [if_neg (by omega), if_pos (by omega), show b / 2 - 1 = k by omega]
  ·rw [if_neg c2]
   by_cases c3 : a = 2 + 2 * k ∧ b = 3 + 2 * k
   ·rw [if_pos c3]; unfold lay
    rw [if_pos (by omega)]
   ·rw [if_neg c3]; unfold lay
    rw [if_neg hn]
    by_cases A : a % 2 = 0 ∧ 2 ≤ a ∧ b = a + 1 ∧ a < 2 + 2 * k
    ·rw [if_pos A, if_pos (by omega)]
    ·rw [if_neg A, if_neg (show ¬ (a % 2 = 0 ∧ 2 ≤ a ∧ b = a + 1 ∧ a < 2 + 2 * (k + 1)) by omega)]
     by_cases B : a = 0 ∧ b % 2 = 0 ∧ 2 ≤ b ∧ b < 2 + 2 * k
     ·rw [if_pos B, if_pos (by omega)]
     ·rw [if_neg B, if_neg (show ¬ (a = 0 ∧ b % 2 = 0 ∧ 2 ≤ b ∧ b < 2 + 2 * (k + 1)) by omega)]
      by_cases C : b = 1 ∧ a % 2 = 1 ∧ 3 ≤ a ∧ a < 3 + 2 * k
      ·rw [if_pos C, if_pos (by omega)]
      ·rw [if_neg C, if_neg (show ¬ (b = 1 ∧ a % 2 = 1 ∧ 3 ≤ a ∧ a < 3 + 2 * (k + 1)) by omega)]
theorem lay_edge (E : List (Int × Int)) (s t k l a b : Nat) : lay E s t k (l + 1) a b = if a = 3 + 2 * hA E l ∧ b = 2 + 2 * hB E l then 1 else lay E s t k l a b := by
 by_cases c : a = 3 + 2 * hA E l ∧ b = 2 + 2 * hB E l
 ·rw [if_pos c]; unfold lay
  rw [if_neg (by omega), if_neg (by omega), if_neg (by omega), if_pos ⟨l, by omega, c⟩]
 ·rw [if_neg c]; unfold lay
  have e : (∃ e, e < l + 1 ∧ a = 3 + 2 * hA E e ∧ b = 2 + 2 * hB E e) ↔ ∃ e, e < l ∧ a = 3 + 2 * hA E e ∧ b = 2 + 2 * hB E e := by
   constructor
   ·rintro ⟨e, h1, h2⟩
    rcases Nat.lt_succ_iff_lt_or_eq.1 h1 with q | q
    ·exact ⟨e, q, h2⟩
    ·subst q; exact absurd h2 c
   ·rintro ⟨e, h1, h2⟩; exact ⟨e, by omega, h2⟩
  simp only [e]
theorem lay_bd (E : List (Int × Int)) (s t k l a b : Nat) : 0 ≤ lay E s t k l a b ∧ lay E s t k l a b ≤ 1 := by
 have z : ∀ s v, 0 ≤ bitZ s v ∧ bitZ s v ≤ 1 := fun s v => by unfold bitZ; split <;> omega
 unfold lay
 split
 ·omega
 ·split
  ·exact z _ _
  ·split
   ·exact z _ _
   ·split <;> omega
theorem laid_spec {N : Nat} {E : List (Int × Int)} (h : CG N E) (s t : Nat) : Gets (links_laid N E (s : Int) (t : Int)) (fun p => Sq (2 + 2 * N) p ∧ ∀ i j, en p i j = lay E s t N E.length i j) := by
 have hn1 := h.n1
 have hn7 := h.n7
 have he8 := h.e8
 obtain ⟨ends, eq⟩ := h.ends
 unfold links_laid
 have hm : ((2 : Int) + 2 * (N : Int)).toNat = 2 + 2 * N := by omega
 simp only [hm]
 refine gChk ⟨⟨by omega, by omega⟩, ⟨by omega, by omega⟩, by omega, by omega⟩ ?_
 refine gBind (R := fun p => Sq (2 + 2 * N) p ∧ ∀ i j, en p i j = 0) (gFor (2 + 2 * N) (fun k (x : List (List Int) × Int) => x.2 = (k : Int) ∧ x.1 = List.replicate k (List.replicate (2 + 2 * N) 0)) (Nat.zero_le _) ⟨rfl, rfl⟩ ?_) ?_
 ·rintro k ⟨_, _⟩ hk ⟨rfl, rfl⟩
  simp only [toNat_nat, List.length_replicate]
  refine gIte (fun h1 => gChk ⟨⟨by omega, by omega⟩, by omega, by omega⟩ (gChk trivial (gChk ⟨by omega, by omega⟩ (gSome ⟨by omega, by simp, ?_⟩)))) fun h1 => gSome ?_
  ·show _ ++ [_] = _
   rw [List.replicate_succ']
  ·have e : k = 2 + 2 * N := by omega
   subst e
   refine ⟨⟨by simp, fun i hi => by rw [zeros_sq _ _ (Nat.le_refl _) i hi]; simp⟩, fun i j => ?_⟩
   unfold en
   by_cases c : i < 2 + 2 * N
   ·rw [zeros_sq _ _ (Nat.le_refl _) i c]; exact zero_getD _ _
   ·rw [List.getD_eq_getElem?_getD (l := List.replicate _ (List.replicate _ _)), List.getElem?_replicate, if_neg c]; rfl
 ·rintro p0 ⟨hp0, hp0'⟩
  refine gChk hp0.len.symm ?_
  refine gBind (R := fun p => Sq (2 + 2 * N) p ∧ ∀ i j, en p i j = lay E s t N 0 i j) (gFor N (fun k (x : List (List Int) × Int) => x.2 = (k : Int) ∧ Sq (2 + 2 * N) x.1 ∧ ∀ i j, en x.1 i j = lay E s t k 0 i j) (Nat.zero_le _) ⟨rfl, hp0, fun i j => by rw [lay_zero]; exact hp0' i j⟩ ?_) ?_
  ·rintro k ⟨p, _⟩ hk ⟨rfl, hp, hp'⟩
   dsimp only at hp hp' ⊢
   refine gIte (fun h1 => ?_) fun h1 => gSome (by rw [show N = k by omega] at hp ⊢; exact ⟨hp, hp'⟩)
   have hkN : k < N := by omega
   have e2 : ((2 : Int) + 2 * (k : Int)).toNat = 2 + 2 * k := by omega
   have e3 : ((3 : Int) + 2 * (k : Int)).toNat = 3 + 2 * k := by omega
   simp only [e2, e3, toNat_nat]
   have b1 := bit_nat s k
   have b2 := bit_nat t k
   rw [toNat_nat] at b1 b2
   rw [b1, b2]
   have hl := hp.len
   have r2 := hp.row (2 + 2 * k) (by omega)
   have r3 := hp.row (3 + 2 * k) (by omega)
   have r0 := hp.row 0 (by omega)
   have q1 := hp.put (i := 2 + 2 * k) (j := 3 + 2 * k) 1 (by omega)
   have q2 := q1.put (i := 0) (j := 2 + 2 * k) (if s.testBit k = true then 1 else 0) (by omega)
   have q3 := q2.put (i := 3 + 2 * k) (j := 1) (if t.testBit k = true then 1 else 0) (by omega)
   refine gChk ⟨⟨by omega, by omega⟩, ⟨by omega, by omega⟩, ⟨by omega, by omega⟩, ⟨by omega, by omega⟩, by omega, by omega⟩ (gChk ⟨⟨by omega, by omega⟩, ⟨by omega, by omega⟩, ⟨by omega, by omega⟩, by omega, by omega, by omega⟩ (gChk ⟨⟨by omega, by omega⟩, ⟨by omega, by omega⟩, ⟨by omega, by omega⟩, by omega, by omega⟩ (gChk ⟨by omega, by omega⟩ (gSome ⟨hkN, by simp, q3, fun a b => ?_⟩))))
   show en (List.set _ _ _) a b = _
   rw [q2.get _ (by omega) (by omega), q1.get _ (by omega) (by omega), hp.get _ (by omega) (by omega), hp', lay_vert]
   rfl
  ·rintro p1 ⟨hp1, hp1'⟩
   refine gBind (R := fun p => Sq (2 + 2 * N) p ∧ ∀ i j, en p i j = lay E s t N E.length i j) (gFor E.length (fun l (x : List (List Int) × Int) => x.2 = (l : Int) ∧ Sq (2 + 2 * N) x.1 ∧ ∀ i j, en x.1 i j = lay E s t N l i j) (Nat.zero_le _) ⟨rfl, hp1, hp1'⟩ ?_) fun p hp => gSome hp
   rintro l ⟨p, _⟩ hl ⟨rfl, hp, hp'⟩
   dsimp only at hp hp' ⊢
   simp only [toNat_nat]
   refine gIte (fun h1 => ?_) fun h1 => gSome (by rw [show E.length = l by omega]; exact ⟨hp, hp'⟩)
   have hlE : l < E.length := by omega
   obtain ⟨ea, eb⟩ := eq l hlE
   obtain ⟨la, lb⟩ := ends l hlE
   have e2 : ((2 : Int) + 2 * ((hB E l : Nat) : Int)).toNat = 2 + 2 * hB E l := by omega
   have e3 : ((3 : Int) + 2 * ((hA E l : Nat) : Int)).toNat = 3 + 2 * hA E l := by omega
   simp only [ea, eb, e2, e3]
   have hl := hp.len
   have r3 := hp.row (3 + 2 * hA E l) (by omega)
   refine gChk ⟨by omega, by omega⟩ (gChk ⟨⟨by omega, by omega⟩, ⟨by omega, by omega⟩, ⟨by omega, by omega⟩, ⟨by omega, by omega⟩, ⟨by omega, by omega⟩, by omega, by omega⟩ (gSome ⟨hlE, by simp, hp.put _ (by omega), fun a b => ?_⟩))
   show en (List.set _ _ _) a b = _
   rw [hp.get _ (by omega) (by omega), hp', lay_edge]
theorem nodup_le : ∀ (m : Nat) (Q : List Nat), Q.Nodup → (∀ x, x ∈ Q → x < m) → Q.length ≤ m
 | 0, Q, _, h => by
  cases Q with
  | nil => exact Nat.le_refl _
  | cons a l => exact absurd (h a List.mem_cons_self) (by omega)
 | m + 1, Q, hn, h => by
  have h1 := nodup_le m (Q.erase m) (hn.erase m) fun x hx => by
   have h2 := hn.mem_erase_iff.1 hx
   have := h x h2.2
   have := h2.1
   omega
  have h2 := List.length_erase (a := m) (l := Q)
  split at h2 <;> omega
theorem getD_mem {Q : List Nat} {t : Nat} (h : t < Q.length) : Q.getD t 0 ∈ Q := by
 rw [List.getD_eq_getElem?_getD, List.getElem?_eq_getElem h]; exact List.getElem_mem h
theorem getD_inj {Q : List Nat} (hn : Q.Nodup) {s t : Nat} (hs : s < Q.length) (ht : t < Q.length) (e : Q.getD s 0 = Q.getD t 0) : s = t := by
 rw [List.getD_eq_getElem?_getD, List.getD_eq_getElem?_getD, List.getElem?_eq_getElem hs, List.getElem?_eq_getElem ht] at e
 have hp := List.pairwise_iff_getElem.1 hn
 rcases Nat.lt_trichotomy s t with c | c | c
 ·exact absurd e (hp s t hs ht c)
 ·exact c
 ·exact absurd e.symm (hp t s ht hs c)
theorem mem_getD' {Q : List Nat} {x : Nat} (h : x ∈ Q) : ∃ t, t < Q.length ∧ Q.getD t 0 = x := by
 obtain ⟨t, ht, rfl⟩ := List.getElem_of_mem h
 exact ⟨t, ht, by rw [List.getD_eq_getElem?_getD, List.getElem?_eq_getElem ht]; rfl⟩
theorem snocN_lt {Q : List Nat} {x t : Nat} (h : t < Q.length) : (Q ++ [x]).getD t 0 = Q.getD t 0 := by
 rw [List.getD_eq_getElem?_getD, List.getElem?_append_left h, ← List.getD_eq_getElem?_getD]
theorem snocN_at {Q : List Nat} {x t : Nat} (h : t = Q.length) : (Q ++ [x]).getD t 0 = x := by
 subst h; rw [List.getD_eq_getElem?_getD, List.getElem?_append_right (Nat.le_refl _), Nat.sub_self]; rfl
theorem sm_put {m j : Nat} (hj : j < m) {f g : Nat → Int} (h : ∀ i, i < m → i ≠ j → f i = g i) : sm m f = sm m g + (f j - g j) := by
 have e : sm m f = sm m (fun i => g i + (if i = j then f j - g j else 0)) := sm_congr fun i hi => by
  by_cases c : i = j
  ·subst c; rw [if_pos rfl]; omega
  ·rw [if_neg c, h i hi c]; omega
 rw [e, sm_add, sm_one (f := fun i => if i = j then f j - g j else 0) hj fun i hi hne => if_neg hne, if_pos rfl]
/-- What is known in the search: who was met, in order, and from whom. -/
structure Met (m : Nat) (X : List (List Int)) (c : List Int) (Q : List Nat) : Prop where
 len : c.length = m
 nd : Q.Nodup
 lt : ∀ x, x ∈ Q → x < m
 pos : 0 < Q.length
 fst : Q.getD 0 0 = 0
 mem : ∀ i, i < m → (0 ≤ c.getD i 0 ↔ i ∈ Q)
 par : ∀ t, 0 < t → t < Q.length → ∃ s, s < t ∧ c.getD (Q.getD t 0) 0 = ((Q.getD s 0 : Nat) : Int) ∧ 0 < en X (Q.getD s 0) (Q.getD t 0)
theorem Met.add {m : Nat} {X : List (List Int)} {c : List Int} {Q : List Nat} (h : Met m X c Q) {k j : Nat} (hk : k < Q.length) (hj : j < m) (he : 0 < en X (Q.getD k 0) j) (hn : c.getD j 0 < 0) : Met m X (c.set j ((Q.getD k 0 : Nat) : Int)) (Q ++ [j]) := by
 have hnot : j ∉ Q := fun w => by have := (h.mem j hj).2 w; omega
 have hg := fun i => numGet (((Q.getD k 0 : Nat) : Int)) (show j < c.length by rw [h.len]; exact hj) i
 refine ⟨by rw [List.length_set]; exact h.len, ?_, fun x hx => ?_, by rw [List.length_append]; simp, by rw [snocN_lt h.pos]; exact h.fst, fun i hi => ?_, fun t h0 ht => ?_⟩
 ·rw [List.nodup_append]
  exact ⟨h.nd, by simp, fun a ha b hb => by rw [List.mem_singleton] at hb; subst hb; exact fun e => hnot (e ▸ ha)⟩
 ·rcases List.mem_append.1 hx with w | w
  ·exact h.lt x w
  ·rw [List.mem_singleton] at w; omega
 ·rw [hg, List.mem_append, List.mem_singleton]
  by_cases e : i = j
  ·rw [if_pos e]; exact ⟨fun _ => .inr e, fun _ => by omega⟩
  ·rw [if_neg e, h.mem i hi]; exact ⟨.inl, fun w => w.resolve_right e⟩
 ·rw [List.length_append] at ht
  simp only [List.length_cons, List.length_nil] at ht
  by_cases e : t = Q.length
  ·refine ⟨k, by omega, ?_, ?_⟩
   ·rw [snocN_at e, hg, if_pos rfl, snocN_lt hk]
   ·rw [snocN_at e, snocN_lt hk]; exact he
  ·obtain ⟨s, s1, s2, s3⟩ := h.par t h0 (by omega)
   have hne : Q.getD t 0 ≠ j := fun w => hnot (w ▸ getD_mem (by omega))
   refine ⟨s, s1, ?_, ?_⟩
   ·rw [snocN_lt (by omega), hg, if_neg hne, snocN_lt (by omega)]; exact s2
   ·rw [snocN_lt (by omega), snocN_lt (by omega)]; exact s3
theorem more_spec {m : Nat} {X : List (List Int)} (hX : Sq m X) (hm : 2 ≤ m) (hm16 : m ≤ 16) (hnn : ∀ i, i < m → ∀ j, j < m → 0 ≤ en X i j) (hsy : ∀ i, i < m → ∀ j, j < m → en X i j + en X j i ≤ 2) :
  Gets (links_pipes_more X) (fun r => (r.1 = false ∧ r.2 = X ∧ ∃ S : Nat → Bool, S 0 = true ∧ S 1 = false ∧ ∀ i, i < m → ∀ j, j < m → S i = true → S j = false → en X i j = 0) ∨
   (r.1 = true ∧ Sq m r.2 ∧ (∀ i, i < m → ∀ j, j < m → 0 ≤ en r.2 i j) ∧ (∀ i, i < m → ∀ j, j < m → en r.2 i j + en r.2 j i = en X i j + en X j i) ∧ ∀ i, i < m → sm m (en r.2 i) = sm m (en X i) + ((if i = 0 then -1 else 0) + (if i = 1 then 1 else 0)))) := by
 have hlX := hX.len
 unfold links_pipes_more
 simp only [hlX, toNat_nat]
 refine gChk ⟨by omega, by omega⟩ ?_
 refine gBind (R := fun c : List Int => c.length = m ∧ ∀ i, i < m → c.getD i 0 = -1) (gFor m (fun k (x : List Int × Int) => x.2 = (k : Int) ∧ x.1.length = m ∧ ∀ i, i < k → x.1.getD i 0 = -1) (Nat.zero_le _) ⟨rfl, by simp, none_all⟩ ?_) ?_
 ·rintro k ⟨c, _⟩ hk ⟨rfl, h1, h2⟩
  dsimp only at h1 h2 ⊢
  simp only [toNat_nat, List.length_replicate]
  refine gIte (fun h3 => gChk ⟨by omega, by omega⟩ (gSome ⟨by omega, by simp, by simpa using h1, fun i hi => ?_⟩)) fun h3 => gSome ⟨h1, fun i hi => h2 i (by omega)⟩
  rw [numGet _ (by omega)]
  by_cases e : i = k
  ·rw [if_pos e]
  ·rw [if_neg e]; exact h2 i (by omega)
 rintro c0 ⟨hc1, hc2⟩
 refine gChk ⟨by omega, by omega⟩ ?_
 have start : Met m X (c0.set 0 0) [0] := by
  have hg := fun i => numGet (0 : Int) (show 0 < c0.length by omega) i
  refine ⟨by simpa using hc1, by simp, fun x hx => by simp at hx; omega, by simp, rfl, fun i hi => ?_, fun t h0 ht => by simp at ht; omega⟩
  rw [hg, List.mem_singleton]
  by_cases e : i = 0
  ·rw [if_pos e]; exact ⟨fun _ => e, fun _ => Int.le_refl _⟩
  ·rw [if_neg e, hc2 i hi]; exact ⟨fun w => by omega, fun w => absurd w e⟩
 refine gBind (R := fun c : List Int => ∃ Q, Met m X c Q ∧ (0 ≤ c.getD 1 0 ∨ ∀ t, t < Q.length → ∀ j, j < m → 0 < en X (Q.getD t 0) j → j ∈ Q))
  (gFor m (fun k (x : List Int × List Int × Int) => x.2.2 = (k : Int) ∧ ∃ Q, x.2.1 = cs Q ∧ Met m X x.1 Q ∧ k ≤ Q.length ∧ ∀ t, t < k → ∀ j, j < m → 0 < en X (Q.getD t 0) j → j ∈ Q) (Nat.zero_le _) ⟨rfl, [0], rfl, start, Nat.zero_le _, none_all⟩ ?_) ?_
 ·rintro k ⟨c, _, _⟩ hk ⟨rfl, Q, rfl, hM, hkQ, hcl⟩
  dsimp only at hM ⊢
  have hlc := hM.len
  have hQm := nodup_le m Q hM.nd hM.lt
  simp only [toNat_nat, cs_len, cs_get]
  refine gChk (fun _ => ⟨by omega, by omega⟩) ?_
  refine gIte (fun h1 => ?_) fun h1 => gSome ⟨Q, hM, ?_⟩
  rotate_left
  ·by_cases w : 0 ≤ c.getD 1 0
   ·exact .inl w
   ·exact .inr fun t ht => hcl t (by omega)
  have hk1 : k < Q.length := by omega
  have hu := hM.lt _ (getD_mem hk1)
  have hrow := hX.row _ hu
  refine gChk ⟨⟨by omega, by omega⟩, by omega, by omega⟩ ?_
  obtain ⟨u, hue⟩ : ∃ u, u = Q.getD k 0 := ⟨_, rfl⟩
  rw [← hue] at hu hrow ⊢
  refine gBind (R := fun z : List Int × List Int => ∃ Q', z.2 = cs Q' ∧ Met m X z.1 Q' ∧ k < Q'.length ∧ (∀ t, t ≤ k → Q'.getD t 0 = Q.getD t 0) ∧ (∀ x, x ∈ Q → x ∈ Q') ∧ ∀ j, j < m → 0 < en X u j → j ∈ Q')
   (gFor m (fun j (x : List Int × List Int × Int) => x.2.2 = (j : Int) ∧ ∃ Q', x.2.1 = cs Q' ∧ Met m X x.1 Q' ∧ k < Q'.length ∧ (∀ t, t ≤ k → Q'.getD t 0 = Q.getD t 0) ∧ (∀ x, x ∈ Q → x ∈ Q') ∧ ∀ b, b < j → 0 < en X u b → b ∈ Q') (Nat.zero_le _) ⟨rfl, Q, rfl, hM, hk1, fun t _ => rfl, fun x hx => hx, none_all⟩ ?_) ?_
  ·rintro j ⟨c', _, _⟩ hj ⟨rfl, Q', rfl, hM', hkQ', hsame, hsub, hcl'⟩
   dsimp only at hM' ⊢
   have hlc' := hM'.len
   have hQm' := nodup_le m Q' hM'.nd hM'.lt
   have ee : (X.getD u []).getD j 0 = en X u j := rfl
   simp only [toNat_nat, cs_len, cs_get, hrow, ee]
   refine gIte (fun h2 => ?_) fun h2 => gSome ⟨Q', rfl, hM', hkQ', hsame, hsub, fun b hb => hcl' b (by omega)⟩
   have hjm : j < m := by omega
   refine gChk ⟨by omega, by omega⟩ (gChk (fun _ => ⟨by omega, by omega⟩) ?_)
   have hku : Q'.getD k 0 = u := by rw [hsame k (Nat.le_refl _), hue]
   refine gIte (fun h3 => ?_) fun h3 => gChk ⟨by omega, by omega⟩ (gSome ⟨hjm, by simp, Q', rfl, hM', hkQ', hsame, hsub, step_all hcl' fun w => ?_⟩)
   ·refine gChk ⟨⟨by omega, by omega⟩, by omega, by omega⟩ (gChk (by rw [List.length_append, cs_len]; simp; omega) (gChk ⟨by omega, by omega⟩ (gSome ⟨hjm, by simp, Q' ++ [j], cs_app _ _, hM'.add hkQ' hjm (by rw [hku]; exact h3.1) h3.2, by rw [List.length_append]; omega, fun t ht => ?_, fun x hx => List.mem_append_left _ (hsub x hx), step_all (fun b hb w => List.mem_append_left _ (hcl' b hb w)) fun _ => List.mem_append_right _ (List.mem_singleton.2 rfl)⟩)))
    rw [snocN_lt (by omega)]; exact hsame t ht
   ·exact (hM'.mem j hjm).1 (by omega)
  ·rintro ⟨c', _⟩ ⟨Q', rfl, hM', hkQ', hsame, hsub, hcl'⟩
   refine gChk ⟨by omega, by omega⟩ (gSome ⟨by omega, by simp, Q', rfl, hM', hkQ', fun t ht j hj w => ?_⟩)
   rcases Nat.lt_succ_iff_lt_or_eq.1 ht with q | q
   ·rw [hsame t (by omega)] at w; exact hsub _ (hcl t q j hj w)
   ·rw [q, hsame k (Nat.le_refl _), ← hue] at w; exact hcl' j hj w
 rintro c ⟨Q, hM, hend⟩
 have hlc := hM.len
 refine gChk ⟨by omega, by omega⟩ ?_
 refine gIte (fun h1 => gSome (.inl ⟨rfl, rfl, fun i => decide (i ∈ Q), ?_, ?_, fun i hi j hj a b => ?_⟩)) fun h1 => ?_
 ·exact decide_eq_true (by have := getD_mem hM.pos; rwa [hM.fst] at this)
 ·exact decide_eq_false fun w => by have := (hM.mem 1 (by omega)).2 w; omega
 ·have hcl := hend.resolve_left (by omega)
  obtain ⟨t, t1, rfl⟩ := mem_getD' (of_decide_eq_true a)
  have h2 : ¬ 0 < en X (Q.getD t 0) j := fun w => (of_decide_eq_false b) (hcl t t1 j hj w)
  have := hnn _ hi j hj
  omega
 have h1Q : 1 ∈ Q := (hM.mem 1 (by omega)).1 (by omega)
 obtain ⟨t0, ht0, ht1⟩ := mem_getD' h1Q
 have hQm := nodup_le m Q hM.nd hM.lt
 refine gBind (R := fun q => Sq m q ∧ (∀ i, i < m → ∀ j, j < m → 0 ≤ en q i j) ∧ (∀ i, i < m → ∀ j, j < m → en q i j + en q j i = en X i j + en X j i) ∧ ∀ i, i < m → sm m (en q i) = sm m (en X i) + ((if i = 0 then -1 else 0) + (if i = 1 then 1 else 0)))
  (gFor Q.length (fun k (x : List (List Int) × Int) => ∃ t, t + k < Q.length ∧ x.2 = ((Q.getD t 0 : Nat) : Int) ∧ Sq m x.1 ∧ (∀ i, i < m → ∀ j, j < m → 0 ≤ en x.1 i j) ∧ (∀ i, i < m → ∀ j, j < m → en x.1 i j + en x.1 j i = en X i j + en X j i) ∧ (∀ s, s ≤ t → ∀ i, i < m → en X i (Q.getD s 0) ≤ en x.1 i (Q.getD s 0)) ∧
   ∀ i, i < m → sm m (en x.1 i) = sm m (en X i) + ((if i = Q.getD t 0 then -1 else 0) + (if i = 1 then 1 else 0))) (Nat.zero_le _)
   ⟨t0, by omega, by rw [ht1]; rfl, hX, hnn, fun i _ j _ => rfl, fun s _ i _ => Int.le_refl _, fun i hi => by dsimp only; rw [ht1]; split <;> omega⟩ ?_) fun q hq => gSome (.inr ⟨rfl, hq⟩)
 rintro k ⟨q, _⟩ hk ⟨t, htk, rfl, hq, hqn, hqs, hqm, hqr⟩
 dsimp only at hq hqn hqs hqm hqr ⊢
 refine gIte (fun h2 => ?_) fun h2 => gSome ⟨hq, hqn, hqs, fun i hi => by rw [hqr i hi, show Q.getD t 0 = 0 by omega]⟩
 have htQ : t < Q.length := by omega
 have ht0' : 0 < t := by
  rcases Nat.eq_zero_or_pos t with w | w
  ·subst w; exact absurd (by rw [hM.fst]; rfl) h2
  ·exact w
 obtain ⟨s, s1, s2, s3⟩ := hM.par t ht0' htQ
 have hsQ : s < Q.length := by omega
 have hwm := hM.lt _ (getD_mem htQ)
 have hum := hM.lt _ (getD_mem hsQ)
 have hne : Q.getD s 0 ≠ Q.getD t 0 := fun e => by have := getD_inj hM.nd hsQ htQ e; omega
 have hmono := hqm t (Nat.le_refl _) _ hum
 have hinj : ∀ r, r ≤ s → Q.getD r 0 ≠ Q.getD t 0 := fun r hr e => by have := getD_inj hM.nd (by omega) htQ e; omega
 obtain ⟨w, hw⟩ : ∃ w, w = Q.getD t 0 := ⟨_, rfl⟩
 obtain ⟨u, hu⟩ : ∃ u, u = Q.getD s 0 := ⟨_, rfl⟩
 rw [← hw] at hwm hne s2 s3 hmono h2 hqr hinj ⊢
 rw [← hu] at hum hne s2 s3 hmono
 simp only [s2, toNat_nat]
 have hl := hq.len
 have ru := hq.row u hum
 have rw' := hq.row w hwm
 have e1 : (q.getD u []).getD w 0 = en q u w := rfl
 have hq1 := hq.put (i := u) (j := w) (en q u w - 1) hum
 have hq1g := hq.get (i := u) (j := w) (en q u w - 1) hum hwm
 simp only [e1]
 obtain ⟨q1, hq1e⟩ : ∃ q1, q1 = q.set u ((q.getD u []).set w (en q u w - 1)) := ⟨_, rfl⟩
 rw [← hq1e] at hq1 hq1g ⊢
 have e2 : (q1.getD w []).getD u 0 = en q w u := by
  show en q1 w u = _
  rw [hq1g, if_neg (fun z => hne z.1.symm)]
 simp only [e2]
 have hq2 := hq1.put (i := w) (j := u) (en q w u + 1) hwm
 have hq2g : ∀ a b, en (q1.set w ((q1.getD w []).set u (en q w u + 1))) a b = if a = w ∧ b = u then en q w u + 1 else if a = u ∧ b = w then en q u w - 1 else en q a b := fun a b => by
  rw [hq1.get _ hwm hum, hq1g]
 have l1 := hq1.len
 have p1 := hqn u hum w hwm
 have p2 := hqn w hwm u hum
 have p3 := hqs u hum w hwm
 have p4 := hsy u hum w hwm
 refine gChk ⟨⟨by omega, by omega⟩, ⟨by omega, by omega⟩, ⟨by omega, by rw [ru]; omega⟩, by omega, by omega⟩ (gChk ⟨⟨by omega, by omega⟩, ⟨by omega, by omega⟩, ⟨by omega, by rw [rw']; omega⟩, by omega, by omega⟩ (gChk ⟨by omega, by omega⟩ (gSome ⟨by omega, s, by omega, by rw [hu], hq2, fun a ha b hb => ?_, fun a ha b hb => ?_, fun r hr a ha => ?_, fun a ha => ?_⟩)))
 ·rw [hq2g]
  split
  ·omega
  ·split
   ·omega
   ·exact hqn a ha b hb
 ·rw [hq2g, hq2g, ← hqs a ha b hb]
  by_cases c1 : a = w ∧ b = u
  ·obtain ⟨rfl, rfl⟩ := c1
   rw [if_pos ⟨rfl, rfl⟩, if_neg (fun z => hne z.1), if_pos ⟨rfl, rfl⟩]; omega
  ·by_cases c2 : a = u ∧ b = w
   ·obtain ⟨rfl, rfl⟩ := c2
    rw [if_neg c1, if_pos ⟨rfl, rfl⟩, if_pos ⟨rfl, rfl⟩]; omega
   ·rw [if_neg c1, if_neg c2, if_neg (fun z => c2 ⟨z.2, z.1⟩), if_neg (fun z => c1 ⟨z.2, z.1⟩)]
 ·have := hqm r (by omega) a ha
  have hnw := hinj r hr
  rw [hq2g]
  by_cases c1 : a = w ∧ Q.getD r 0 = u
  ·rw [if_pos c1]; rw [c1.1, c1.2] at *; omega
  ·rw [if_neg c1, if_neg (fun z => hnw z.2)]; exact this
 ·have hr0 := hqr a ha
  dsimp only
  by_cases c1 : a = w
  ·have := sm_put (m := m) (j := u) hum (f := en (q1.set w ((q1.getD w []).set u (en q w u + 1))) a) (g := en q a) fun i hi hn => by
    rw [hq2g, if_neg (fun z => hn z.2), if_neg (fun z => hne (z.1.symm.trans c1))]
   have x1 : (if a = u then (-1 : Int) else 0) = 0 := if_neg fun z => hne (z.symm.trans c1)
   have x2 : (if a = w then (-1 : Int) else 0) = -1 := if_pos c1
   have x3 : en q a u = en q w u := by rw [c1]
   rw [this, hq2g, if_pos ⟨c1, rfl⟩, hr0, ← hu, x1, x2, x3]; omega
  ·by_cases c2 : a = u
   ·have := sm_put (m := m) (j := w) hwm (f := en (q1.set w ((q1.getD w []).set u (en q w u + 1))) a) (g := en q a) fun i hi hn => by
     rw [hq2g, if_neg (fun z => c1 z.1), if_neg (fun z => hn z.2)]
    have x1 : (if a = u then (-1 : Int) else 0) = -1 := if_pos c2
    have x2 : (if a = w then (-1 : Int) else 0) = 0 := if_neg c1
    have x3 : en q a w = en q u w := by rw [c2]
    rw [this, hq2g, if_neg (fun z => c1 z.1), if_pos ⟨c2, rfl⟩, hr0, ← hu, x1, x2, x3]; omega
   ·have : sm m (en (q1.set w ((q1.getD w []).set u (en q w u + 1))) a) = sm m (en q a) := sm_congr fun i hi => by
     rw [hq2g, if_neg (fun z => c1 z.1), if_neg (fun z => c2 z.1)]
    have x1 : (if a = u then (-1 : Int) else 0) = 0 := if_neg c2
    have x2 : (if a = w then (-1 : Int) else 0) = 0 := if_neg c1
    rw [this, hr0, ← hu, x1, x2]
theorem right_spec (g : Int) (E : List (Int × Int)) (l : List Int) : Gets (links_right g E l) (fun e => e = 0 ↔ CG g E ∧ ∀ k, k < l.length → 0 ≤ l.getD k 0 ∧ l.getD k 0 < ((2 ^ g.toNat : Nat) : Int)) := by
 unfold links_right
 refine gBind (CheckGraph_spec g E) ?_
 rintro e ⟨h1, h2⟩
 refine gIte (fun q => gSome ⟨fun w => absurd w q, fun w => absurd (h2.2 w.1) q⟩) fun q => ?_
 have hg := h2.1 (by omega)
 have := hg.n1
 have := hg.n7
 obtain ⟨N, rfl⟩ := Int.eq_ofNat_of_zero_le (show 0 ≤ g by omega)
 simp only [toNat_nat, shl_nat']
 refine gBind (R := fun z : Unit ⊕ Int => match z with | .inl _ => ∀ k, k < l.length → 0 ≤ l.getD k 0 ∧ l.getD k 0 < ((2 ^ N : Nat) : Int) | .inr r => r = 1 ∧ ¬ ∀ k, k < l.length → 0 ≤ l.getD k 0 ∧ l.getD k 0 < ((2 ^ N : Nat) : Int))
  (gFor l.length (fun k v => v = (k : Int) ∧ ∀ j, j < k → 0 ≤ l.getD j 0 ∧ l.getD j 0 < ((2 ^ N : Nat) : Int)) (Nat.zero_le _) ⟨rfl, none_all⟩ ?_) ?_
 ·rintro k _ hk ⟨rfl, hb⟩
  simp only [toNat_nat]
  refine gIte (fun h3 => gChk (by omega) (gChk (fun _ => by omega) (gIte (fun h4 => gSome ⟨rfl, fun w => ?_⟩) fun h4 => gSome ⟨by omega, by simp, step_all hb (by omega)⟩))) fun h3 => gSome fun j hj => hb j (by omega)
  have := w k (by omega)
  omega
 ·rintro (u | r) hz
  ·exact gSome ⟨fun _ => ⟨hg, hz⟩, fun _ => rfl⟩
  ·exact gSome ⟨fun w => absurd (hz.1.symm.trans w) (by decide), fun w => absurd w.2 hz.2⟩
theorem out_first {m : Nat} {p : Nat → Nat → Int} (hm : 0 < m) (h : ∀ i j, p i j ≤ 1) : outS m p (fun i => decide (i = 0)) ≤ m := by
 unfold outS
 rw [sm_one (k := 0) hm fun i _ hne => if_neg (by simpa using hne), if_pos (by simp)]
 have c : ∀ k, sm k (fun _ => (1 : Int)) = k := fun k => by
  induction k with
  | zero => rfl
  | succ k ih => simp only [sm]; rw [ih]; omega
 rw [← c m]
 refine sm_le fun j _ => ?_
 split
 ·omega
 ·exact h 0 j
theorem ways_spec {N : Nat} {E : List (Int × Int)} (h : CG N E) (s t : Nat) : Gets (links_ways N E (s : Int) (t : Int)) (fun n => Least (2 + 2 * N) (lay E s t N E.length) n ∧ 0 ≤ n ∧ n ≤ 16) := by
 have hn7 := h.n7
 have hbd := lay_bd E s t N E.length
 have hf := out_first (m := 2 + 2 * N) (p := lay E s t N E.length) (by omega) fun i j => (hbd i j).2
 unfold links_ways
 refine gBind (laid_spec h s t) ?_
 rintro X0 ⟨hX0, hX0'⟩
 refine gBind (R := fun n => Least (2 + 2 * N) (lay E s t N E.length) n ∧ 0 ≤ n ∧ n ≤ 16) (gFor (2 + 2 * N) (fun k (x : List (List Int) × Int) => x.2 = (k : Int) ∧ Sq (2 + 2 * N) x.1 ∧ Flow (2 + 2 * N) (lay E s t N E.length) (en x.1) k) (Nat.zero_le _)
  ⟨rfl, hX0, by
   have e : en X0 = lay E s t N E.length := by funext i j; exact hX0' i j
   show Flow _ _ (en X0) _
   rw [e]; exact Flow.start fun i _ j _ => (hbd i j).1⟩ ?_) fun n hn => gSome hn
 rintro k ⟨X, _⟩ hk ⟨rfl, hX, hF⟩
 dsimp only at hX hF ⊢
 have hsy : ∀ i, i < 2 + 2 * N → ∀ j, j < 2 + 2 * N → en X i j + en X j i ≤ 2 := fun i hi j hj => by
  have := hF.sym i hi j hj
  have := (hbd i j).2
  have := (hbd j i).2
  omega
 refine gBind (more_spec hX (by omega) (by omega) hF.nn hsy) ?_
 rintro ⟨b, Z⟩ (⟨h1, h2, S, s0, s1, s2⟩ | ⟨h1, h2, h3, h4, h5⟩)
 ·dsimp only at h1 h2 ⊢
  subst h1 h2
  refine gChk rfl (gIte (fun q => absurd q (by decide)) fun _ => gSome ⟨hF.least (by omega) s0 s1 s2, by omega, by omega⟩)
 ·dsimp only at h1 h2 h3 h4 h5 ⊢
  subst h1
  have hF' : Flow (2 + 2 * N) (lay E s t N E.length) (en Z) ((k : Int) + 1) := ⟨h3, fun i hi j hj => (h4 i hi j hj).trans (hF.sym i hi j hj), fun i hi => by
   rw [h5 i hi, hF.row i hi]
   split <;> split <;> omega⟩
  have hle := hF'.le (by omega) (fun i => decide (i = 0)) (by simp) (by simp)
  refine gChk (by rw [h2.len, hX.len]) (gIte (fun _ => gChk ⟨by omega, by omega⟩ (gSome ⟨by omega, by simp, h2, by
   have e : ((k + 1 : Nat) : Int) = (k : Int) + 1 := by omega
   show Flow _ _ (en Z) _
   rw [e]; exact hF'⟩)) fun q => absurd rfl q)
theorem Most_ok {N : Nat} {E : List (Int × Int)} (h : CG N E) {s t : Nat} (hs : s < 2 ^ N) (ht : t < 2 ^ N) : Gets (links_Most N E (s : Int) (t : Int)) (fun r => r.2 = 0 ∧ Least (2 + 2 * N) (lay E s t N E.length) r.1 ∧ 0 ≤ r.1 ∧ r.1 ≤ 16) := by
 unfold links_Most
 refine gBind (right_spec N E [(s : Int), (t : Int)]) fun e he => gIte (fun q => absurd (he.2 ⟨h, fun k hk => ?_⟩) q) fun _ => gBind (ways_spec h s t) fun n hn => gSome ⟨rfl, hn⟩
 rw [toNat_nat]
 rcases (show k = 0 ∨ k = 1 by simp at hk; omega) with rfl | rfl
 ·show 0 ≤ (s : Int) ∧ (s : Int) < _
  omega
 ·show 0 ≤ (t : Int) ∧ (t : Int) < _
  omega
theorem Most_bad {g : Int} {E : List (Int × Int)} {a b : Int} (h : ¬ ∃ N s t : Nat, g = N ∧ a = s ∧ b = t ∧ CG (N : Int) E ∧ s < 2 ^ N ∧ t < 2 ^ N) : Gets (links_Most g E a b) (fun r => r.2 ≠ 0 ∧ r.1 = 0) := by
 unfold links_Most
 refine gBind (right_spec g E [a, b]) fun e he => gIte (fun q => gSome ⟨q, rfl⟩) fun q => ?_
 exfalso
 obtain ⟨hg, hb⟩ := he.1 (by omega)
 have := hg.n1
 obtain ⟨N, rfl⟩ := Int.eq_ofNat_of_zero_le (show 0 ≤ g by omega)
 have h0 : 0 ≤ a ∧ a < ((2 ^ N : Nat) : Int) := hb 0 (by simp)
 have h1 : 0 ≤ b ∧ b < ((2 ^ N : Nat) : Int) := hb 1 (by simp)
 obtain ⟨s, rfl⟩ := Int.eq_ofNat_of_zero_le h0.1
 obtain ⟨t, rfl⟩ := Int.eq_ofNat_of_zero_le h1.1
 exact h ⟨N, s, t, rfl, rfl, rfl, hg, by omega, by omega⟩
theorem links_size_nat {a : Nat} (h : a < 256) : links_size (a : Int) = some ((size a : Nat) : Int) := by
 unfold links_size bits_OnesCount
 rw [chk_pos (by omega)]
 show some (oc _) = _
 rw [oc_size h]
theorem sm_pts (f : Nat → Int) : ∀ N, sm (2 + 2 * N) f = f 0 + f 1 + sm N (fun v => f (2 + 2 * v) + f (3 + 2 * v))
 | 0 => by
  show 0 + f 0 + f 1 = f 0 + f 1 + 0
  omega
 | N + 1 => by
  have e : 2 + 2 * (N + 1) = 2 + 2 * N + 1 + 1 := by omega
  rw [e]
  show sm (2 + 2 * N) f + f (2 + 2 * N) + f (2 + 2 * N + 1) = f 0 + f 1 + (sm N _ + (f (2 + 2 * N) + f (3 + 2 * N)))
  rw [sm_pts f N, show 2 + 2 * N + 1 = 3 + 2 * N by omega]
  omega
section
variable {N : Nat} {E : List (Int × Int)}
/-- An edge from a to b. -/
def Edge (E : List (Int × Int)) (a b : Nat) : Prop := ∃ e, e < E.length ∧ hA E e = a ∧ hB E e = b
theorem lay_0 (s t j : Nat) : lay E s t N E.length 0 j = if j % 2 = 0 ∧ 2 ≤ j ∧ j < 2 + 2 * N then bitZ s (j / 2 - 1) else 0 := by
 unfold lay
 rw [if_neg (by omega)]
 by_cases c : j % 2 = 0 ∧ 2 ≤ j ∧ j < 2 + 2 * N
 ·rw [if_pos ⟨rfl, c⟩, if_pos c]
 ·rw [if_neg (fun w => c w.2), if_neg c, if_neg (by omega), if_neg (fun ⟨e, _, h, _⟩ => by omega)]
theorem lay_in (s t : Nat) {v : Nat} (hv : v < N) (j : Nat) : lay E s t N E.length (2 + 2 * v) j = if j = 3 + 2 * v then 1 else 0 := by
 unfold lay
 by_cases c : j = 3 + 2 * v
 ·rw [if_pos (by omega), if_pos c]
 ·rw [if_neg (by omega), if_neg (by omega), if_neg (by omega), if_neg (fun ⟨e, _, h, _⟩ => by omega), if_neg c]
theorem lay_ou (s t : Nat) {v : Nat} (hv : v < N) (j : Nat) : open Classical in lay E s t N E.length (3 + 2 * v) j = if j = 1 then bitZ t v else if ∃ b, j = 2 + 2 * b ∧ Edge E v b then 1 else 0 := by
 classical
 unfold lay
 rw [if_neg (by omega), if_neg (by omega)]
 by_cases c : j = 1
 ·rw [if_pos (by omega), if_pos c, show (3 + 2 * v) / 2 - 1 = v by omega]
 ·rw [if_neg (by omega), if_neg c]
  have e : (∃ e, e < E.length ∧ 3 + 2 * v = 3 + 2 * hA E e ∧ j = 2 + 2 * hB E e) ↔ ∃ b, j = 2 + 2 * b ∧ Edge E v b :=
   ⟨fun ⟨e, h1, h2, h3⟩ => ⟨hB E e, h3, e, h1, by omega, rfl⟩, fun ⟨b, h1, e, h2, h3, h4⟩ => ⟨e, h2, by omega, by omega⟩⟩
  by_cases d : ∃ b, j = 2 + 2 * b ∧ Edge E v b
  ·rw [if_pos (e.2 d), if_pos d]
  ·rw [if_neg (fun w => d (e.1 w)), if_neg d]
theorem row_0 (s t : Nat) (S : Nat → Bool) (h0 : S 0 = true) : sm (2 + 2 * N) (fun j => if S j = true then 0 else lay E s t N E.length 0 j) = sm N (fun v => if S (2 + 2 * v) = true then 0 else bitZ s v) := by
 rw [sm_pts, if_pos h0, lay_0, if_neg (show ¬ (1 % 2 = 0 ∧ 2 ≤ 1 ∧ 1 < 2 + 2 * N) by omega)]
 have e : (if S 1 = true then (0 : Int) else 0) = 0 := by split <;> rfl
 rw [e]
 have e2 : ∀ v, v < N → (if S (2 + 2 * v) = true then 0 else lay E s t N E.length 0 (2 + 2 * v)) + (if S (3 + 2 * v) = true then 0 else lay E s t N E.length 0 (3 + 2 * v)) = if S (2 + 2 * v) = true then 0 else bitZ s v := fun v hv => by
  rw [lay_0, lay_0, if_pos (show (2 + 2 * v) % 2 = 0 ∧ 2 ≤ 2 + 2 * v ∧ 2 + 2 * v < 2 + 2 * N by omega), if_neg (show ¬ ((3 + 2 * v) % 2 = 0 ∧ 2 ≤ 3 + 2 * v ∧ 3 + 2 * v < 2 + 2 * N) by omega), show (2 + 2 * v) / 2 - 1 = v by omega]
  split <;> split <;> omega
 rw [sm_congr e2]; omega
theorem row_in (s t : Nat) (S : Nat → Bool) {v : Nat} (hv : v < N) : sm (2 + 2 * N) (fun j => if S j = true then 0 else lay E s t N E.length (2 + 2 * v) j) = if S (3 + 2 * v) = true then 0 else 1 := by
 rw [sm_one (k := 3 + 2 * v) (by omega) fun j hj hne => ?_]
 ·rw [lay_in s t hv, if_pos rfl]
 ·rw [lay_in s t hv, if_neg hne]; split <;> rfl
theorem row_ou (s t : Nat) (S : Nat → Bool) (h0 : S 0 = true) (h1 : S 1 = false) {v : Nat} (hv : v < N) : open Classical in sm (2 + 2 * N) (fun j => if S j = true then 0 else lay E s t N E.length (3 + 2 * v) j) = bitZ t v + sm N (fun b => if S (2 + 2 * b) = true then 0 else if Edge E v b then 1 else 0) := by
 classical
 rw [sm_pts, if_pos h0, if_neg (by rw [h1]; decide), lay_ou s t hv, if_pos rfl]
 have e2 : ∀ b, b < N → (if S (2 + 2 * b) = true then 0 else lay E s t N E.length (3 + 2 * v) (2 + 2 * b)) + (if S (3 + 2 * b) = true then 0 else lay E s t N E.length (3 + 2 * v) (3 + 2 * b)) = if S (2 + 2 * b) = true then 0 else if Edge E v b then 1 else 0 := fun b hb => by
  have a1 : lay E s t N E.length (3 + 2 * v) (2 + 2 * b) = if Edge E v b then 1 else 0 := by
   rw [lay_ou s t hv, if_neg (by omega)]
   by_cases c : Edge E v b
   ·rw [if_pos c, if_pos ⟨b, rfl, c⟩]
   ·rw [if_neg c, if_neg (fun ⟨b', w1, w2⟩ => c (by rw [show b = b' by omega]; exact w2))]
  have a2 : lay E s t N E.length (3 + 2 * v) (3 + 2 * b) = 0 := by
   rw [lay_ou s t hv, if_neg (by omega), if_neg (fun ⟨b', w1, _⟩ => by omega)]
  rw [a1, a2]
  have z : (if S (3 + 2 * b) = true then (0 : Int) else 0) = 0 := by split <;> rfl
  rw [z, Int.add_zero]
 rw [sm_congr e2]; omega
/-- A cut, vertex by vertex. -/
theorem out_lay (s t : Nat) (S : Nat → Bool) (h0 : S 0 = true) (h1 : S 1 = false) : open Classical in outS (2 + 2 * N) (lay E s t N E.length) S = sm N (fun v => if S (2 + 2 * v) = true then 0 else bitZ s v) +
  sm N (fun v => (if S (2 + 2 * v) = true then (if S (3 + 2 * v) = true then 0 else 1) else 0) + (if S (3 + 2 * v) = true then bitZ t v + sm N (fun b => if S (2 + 2 * b) = true then 0 else if Edge E v b then 1 else 0) else 0)) := by
 classical
 unfold outS
 rw [sm_pts, if_pos h0, if_neg (show ¬ S 1 = true by rw [h1]; decide), row_0 s t S h0]
 rw [Int.add_zero]
 congr 1
 refine sm_congr fun v hv => ?_
 rw [row_in s t S hv, row_ou s t S h0 h1 hv]
end
theorem sm_cnt (D : Nat) : ∀ N, sm N (fun v => bitZ D v) = ((cnt N D : Nat) : Int)
 | 0 => rfl
 | N + 1 => by
  show sm N _ + bitZ D N = _
  rw [sm_cnt D N, cnt]
  unfold bitZ
  split <;> omega
theorem bitZ_bd (s v : Nat) : 0 ≤ bitZ s v ∧ bitZ s v ≤ 1 := by unfold bitZ; split <;> omega
theorem bitZ_iff {s v : Nat} {P : Prop} [Decidable P] (h : s.testBit v = true ↔ P) : bitZ s v = if P then 1 else 0 := by
 unfold bitZ
 by_cases c : P
 ·rw [if_pos (h.2 c), if_pos c]
 ·rw [if_neg (fun w => c (h.1 w)), if_neg c]
/-- The sets of the vertices o 0, o 1 ..: each with the heads of its edges. -/
def Out (N : Nat) (E : List (Int × Int)) (o : Nat → Nat) (L : List Nat) : Prop := ∀ k, k < L.length → ∀ x, (L.getD k 0).testBit x = true ↔ x < N ∧ (x = o k ∨ Edge E (o k) x)
theorem cut_sdr {N s t : Nat} {E : List (Int × Int)} {L : List Nat} {o : Nat → Nat} (hE : EndsLt N E) (hs : s < 2 ^ N) (hL : HOk N L) (ho : ∀ k, k < L.length → o k < N ∧ t.testBit (o k) = false) (hoi : ∀ j k, j < L.length → k < L.length → o j = o k → j = k) (hO : Out N E o L)
    (hc : ∀ S : Nat → Bool, S 0 = true → S 1 = false → ((cnt N s : Nat) : Int) ≤ outS (2 + 2 * N) (lay E s t N E.length) S) : ∃ g : Nat → Nat, (∀ k, k < L.length → (L.getD k 0).testBit (g k) = true ∧ s.testBit (g k) = false) ∧ ∀ j k, j < L.length → k < L.length → g j = g k → j = k := by
  classical
  refine hall hL fun J hJ => ?_
  obtain ⟨J', j1, j2, j3⟩ := image_ex (n := L.length) o N J hJ (fun x hx => (ho x (bit_lt hJ hx)).1) fun x y hx hy e => hoi x y (bit_lt hJ hx) (bit_lt hJ hy) e
  obtain ⟨M, hM⟩ : ∃ M, M = nb N L J := ⟨_, rfl⟩
  have hMb : ∀ x, M.testBit x = true ↔ ∃ v, v < L.length ∧ J.testBit v = true ∧ (L.getD v 0).testBit x = true := fun x => by rw [hM]; exact hL.nb_bit J x
  have hJM : ∀ v, J'.testBit v = true → M.testBit v = true := fun v hv => by
    obtain ⟨k, k1, rfl⟩ := (j3 v).1 hv
    have hk := bit_lt hJ k1
    exact (hMb _).2 ⟨k, hk, k1, (hO k hk _).2 ⟨(ho k hk).1, .inl rfl⟩⟩
  have h := hc (fun x => decide (x = 0 ∨ (x % 2 = 0 ∧ 2 ≤ x ∧ M.testBit (x / 2 - 1) = true) ∨ (x % 2 = 1 ∧ 3 ≤ x ∧ J'.testBit (x / 2 - 1) = true))) (by simp) (by simp)
  have eU : ∀ v, decide (2 + 2 * v = 0 ∨ ((2 + 2 * v) % 2 = 0 ∧ 2 ≤ 2 + 2 * v ∧ M.testBit ((2 + 2 * v) / 2 - 1) = true) ∨ ((2 + 2 * v) % 2 = 1 ∧ 3 ≤ 2 + 2 * v ∧ J'.testBit ((2 + 2 * v) / 2 - 1) = true)) = M.testBit v := fun v => by
    rw [show (2 + 2 * v) / 2 - 1 = v by omega]
    cases q : M.testBit v with
    | true => exact decide_eq_true (.inr (.inl ⟨by omega, by omega, rfl⟩))
    | false =>
      exact decide_eq_false fun w => by
        rcases w with w | w | w
        · omega
        · exact absurd w.2.2 (by decide)
        · omega
  have eW : ∀ v, decide (3 + 2 * v = 0 ∨ ((3 + 2 * v) % 2 = 0 ∧ 2 ≤ 3 + 2 * v ∧ M.testBit ((3 + 2 * v) / 2 - 1) = true) ∨ ((3 + 2 * v) % 2 = 1 ∧ 3 ≤ 3 + 2 * v ∧ J'.testBit ((3 + 2 * v) / 2 - 1) = true)) = J'.testBit v := fun v => by
    rw [show (3 + 2 * v) / 2 - 1 = v by omega]
    cases q : J'.testBit v with
    | true => exact decide_eq_true (.inr (.inr ⟨by omega, by omega, rfl⟩))
    | false =>
      exact decide_eq_false fun w => by
        rcases w with w | w | w
        · omega
        · omega
        · exact absurd w.2.2 (by decide)
  rw [out_lay s t _ (by simp) (by simp)] at h
  simp only [eU, eW] at h
  rw [← sm_add] at h
  have e : ∀ v, v < N → (if M.testBit v = true then 0 else bitZ s v) + ((if M.testBit v = true then (if J'.testBit v = true then (0 : Int) else 1) else 0) + (if J'.testBit v = true then bitZ t v + sm N (fun b => if M.testBit b = true then 0 else if Edge E v b then 1 else 0) else 0)) + bitZ J' v = bitZ s v + bitZ (dif M s) v := fun v hv => by
    have z : J'.testBit v = true → bitZ t v + sm N (fun b => if M.testBit b = true then (0 : Int) else if Edge E v b then 1 else 0) = 0 := fun hJv => by
      obtain ⟨k, k1, rfl⟩ := (j3 v).1 hJv
      have hk := bit_lt hJ k1
      have t0 : bitZ t (o k) = 0 := by unfold bitZ; rw [(ho k hk).2]; rfl
      rw [t0, sm_zero fun b hb => ?_]; · rfl
      by_cases q : M.testBit b = true
      · rw [if_pos q]
      · rw [if_neg q, if_neg (fun w => q ((hMb b).2 ⟨k, hk, k1, (hO k hk b).2 ⟨hb, .inr w⟩⟩))]
    have hd : bitZ (dif M s) v = if M.testBit v = true ∧ s.testBit v = false then 1 else 0 := bitZ_iff (by rw [testBit_dif, Bool.and_eq_true, Bool.not_eq_true'])
    rw [hd]
    cases cJ : J'.testBit v with
    | true =>
      have cM := hJM v cJ
      rw [z cJ, cM]
      cases cs : s.testBit v <;> simp [bitZ, cJ, cs]
    | false =>
      cases cM : M.testBit v <;> cases cs : s.testBit v <;> simp [bitZ, cJ, cs]
  have hsum := sm_congr e
  rw [sm_add (f := fun v => (if M.testBit v = true then 0 else bitZ s v) + _) (g := fun v => bitZ J' v), sm_cnt, sm_add (fun v => bitZ s v) (fun v => bitZ (dif M s) v), sm_cnt, sm_cnt] at hsum
  rw [← hM, ← j2]
  omega
theorem Out.hok {N t : Nat} {E : List (Int × Int)} {L : List Nat} (h : CG (N : Int) E) (hL : L.length = cnt N (cpl N t)) (hO : Out N E (fun k => (elm N (cpl N t)).getD k 0) L) : HOk N L := by
 have := h.n7
 have := cnt_le N (cpl N t)
 refine ⟨by omega, by omega, fun k hk => lt_of_bits fun i hi => ?_⟩
 cases q : (L.getD k 0).testBit i with
 | false => rfl
 | true => have := ((hO k hk i).1 q).1; omega
theorem ways_eq {N s t : Nat} {E : List (Int × Int)} {n : Int} (h : Least (2 + 2 * N) (lay E s t N E.length) n) : n = ((cnt N s : Nat) : Int) ↔ ∀ S : Nat → Bool, S 0 = true → S 1 = false → ((cnt N s : Nat) : Int) ≤ outS (2 + 2 * N) (lay E s t N E.length) S := by
 classical
 constructor
 ·rintro rfl; exact h.1
 ·intro hc
  obtain ⟨h1, S, s0, s1, s2⟩ := h
  have a := hc S s0 s1
  have b := h1 (fun x => decide (x = 0)) (by simp) (by simp)
  rw [out_lay s t _ (by simp) (by simp)] at b
  have e1 : ∀ v, decide (2 + 2 * v = 0) = false := fun v => decide_eq_false (by omega)
  have e2 : ∀ v, decide (3 + 2 * v = 0) = false := fun v => decide_eq_false (by omega)
  simp only [e1, e2, Bool.false_eq_true, if_false] at b
  rw [sm_cnt, sm_zero (f := fun _ => (0 : Int) + 0) fun v _ => rfl] at b
  omega
end Go.SH
