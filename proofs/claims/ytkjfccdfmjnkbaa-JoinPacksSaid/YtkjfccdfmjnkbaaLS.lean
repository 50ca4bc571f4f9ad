/-
  What the functions of package sets and of the library give that are asked everywhere: families, search in a list that rises, elements of a set one by one. Conditions: lists are shorter than 2^60.
-/
import Derived.Test.YtkjfccdfmjnkbaaHS
import Derived.Test.YtkjfccdfmjnkbaaSpsets
import Derived.Test.YtkjfccdfmjnkbaaSpslices
import Derived.Test.YtkjfccdfmjnkbaaSpcmp
import Derived.KernelRfl
set_option linter.unusedSimpArgs false
set_option linter.unusedVariables false
namespace Go.SH
open Go Go.AX

theorem step_all {p : Nat → Prop} {k : Nat} (h1 : ∀ j, j < k → p j) (h2 : p k) : ∀ j, j < k + 1 → p j := fun j hj => by
  rcases Nat.lt_or_ge j k with q | q
  · exact h1 j q
  · have : j = k := by omega
    subst this; exact h2
theorem none_all {p : Nat → Prop} : ∀ j, j < 0 → p j := fun j hj => absurd hj (Nat.not_lt_zero j)

/-- A list of sets, as numbers of the program's. -/
def cs (L : List Nat) : List Int := L.map Nat.cast
@[simp] theorem cs_len (L : List Nat) : (cs L).length = L.length := by simp [cs]
theorem cs_get (L : List Nat) (k : Nat) : (cs L).getD k 0 = ((L.getD k 0 : Nat) : Int) := by
  simp only [cs, List.getD_eq_getElem?_getD, List.getElem?_map]
  cases L[k]? <;> simp
theorem cs_app (L : List Nat) (a : Nat) : cs L ++ [(a : Int)] = cs (L ++ [a]) := by simp [cs]
theorem cs_inj {L K : List Nat} (h : cs L = cs K) : L = K := by
  have := congrArg (List.map Int.toNat) h
  simpa [cs, Function.comp_def] using this
theorem cs_of {l : List Int} (h : ∀ k, k < l.length → 0 ≤ l.getD k 0) : l = cs (l.map Int.toNat) := by
  apply List.ext_getElem? ; intro i
  simp only [cs, List.map_map, List.getElem?_map]
  cases hi : l[i]? with
  | none => rfl
  | some x =>
    have hlt := (List.getElem?_eq_some_iff.1 hi).1
    have := h i hlt
    rw [List.getD_eq_getElem?_getD, hi] at this
    simp only [Option.getD_some] at this
    simp only [Option.map_some, Function.comp_apply, Option.some.injEq]; omega
theorem cs_mem (L : List Nat) (a : Nat) : (a : Int) ∈ cs L ↔ a ∈ L := by
  simp only [cs, List.mem_map]
  constructor
  · rintro ⟨b, h, e⟩; have : b = a := by omega
    rwa [← this]
  · intro h; exact ⟨a, h, rfl⟩
theorem mem_getD {L : List Nat} {a : Nat} : a ∈ L ↔ ∃ k, k < L.length ∧ L.getD k 0 = a := by
  rw [List.mem_iff_getElem?]
  constructor
  · rintro ⟨i, hi⟩
    exact ⟨i, (List.getElem?_eq_some_iff.1 hi).1, by rw [List.getD_eq_getElem?_getD, hi]; rfl⟩
  · rintro ⟨k, h1, h2⟩
    refine ⟨k, ?_⟩
    rw [List.getElem?_eq_getElem h1]
    rw [List.getD_eq_getElem?_getD, List.getElem?_eq_getElem h1] at h2
    exact congrArg some h2

/-- It rises. -/
def Rise (l : List Int) : Prop := ∀ i j, i < j → j < l.length → l.getD i 0 < l.getD j 0
/-- A family: sets of m elements, rising. -/
structure Fam (m : Nat) (L : List Nat) : Prop where
  m8 : m ≤ 8
  lt : ∀ s, s ∈ L → s < 2 ^ m
  rise : ∀ i j, i < j → j < L.length → L.getD i 0 < L.getD j 0
theorem Fam.Rise {m : Nat} {L : List Nat} (h : Fam m L) : Rise (cs L) := fun i j hij hj => by
  rw [cs_get, cs_get]; have := h.rise i j hij (by simpa using hj); omega
theorem Fam.ge {m : Nat} {L : List Nat} (h : Fam m L) : ∀ k, k < L.length → k ≤ L.getD k 0 := fun k => by
  induction k with
  | zero => intro _; exact Nat.zero_le _
  | succ k ih => intro hk; have := ih (by omega); have := h.rise k (k + 1) (by omega) hk; omega
theorem Fam.len {m : Nat} {L : List Nat} (h : Fam m L) : L.length ≤ 256 := by
  rcases Nat.eq_zero_or_pos L.length with q | q
  · omega
  · have h1 := h.ge (L.length - 1) (by omega)
    have h2 := h.lt _ (mem_getD.2 ⟨L.length - 1, by omega, rfl⟩)
    have := pow_le8 h.m8
    omega
theorem Fam.ext {m n : Nat} {L K : List Nat} (h : Fam m L) (h' : Fam n K) (e : ∀ s, s ∈ L ↔ s ∈ K) : L = K := by
  have sorted : ∀ {m : Nat} {L : List Nat}, Fam m L → L.Pairwise (· < ·) := fun {m L} h => by
    rw [List.pairwise_iff_getElem]
    intro i j hi hj hij
    have := h.rise i j hij hj
    simpa [List.getD_eq_getElem?_getD, List.getElem?_eq_getElem hi, List.getElem?_eq_getElem hj] using this
  have s1 := sorted h
  have s2 := sorted h'
  clear h h'
  induction L generalizing K with
  | nil =>
    cases K with
    | nil => rfl
    | cons b K => exact absurd ((e b).2 (by simp)) (by simp)
  | cons a L ih =>
    cases K with
    | nil => exact absurd ((e a).1 (by simp)) (by simp)
    | cons b K =>
      rw [List.pairwise_cons] at s1 s2
      have hab : a = b := by
        rcases List.mem_cons.1 ((e a).1 (by simp)) with q | q
        · exact q
        · rcases List.mem_cons.1 ((e b).2 (by simp)) with r | r
          · exact r.symm
          · have := s1.1 b r; have := s2.1 a q; omega
      subst hab
      rw [ih (fun s => ?_) s1.2 s2.2]
      constructor
      · intro hs
        rcases List.mem_cons.1 ((e s).1 (by simp [hs])) with q | q
        · subst q; have := s1.1 s hs; omega
        · exact q
      · intro hs
        rcases List.mem_cons.1 ((e s).2 (by simp [hs])) with q | q
        · subst q; have := s2.1 s hs; omega
        · exact q

theorem sets_Family_spec (n : Int) (l : List Int) (hl : l.length ≤ 9223372036854775807) : Gets (sets_Family n l) (fun r => (r = 0 ∧ ∃ m L, n = (m : Nat) ∧ l = cs L ∧ Fam m L) ∨ (r = 1 ∧ ¬ ∃ m L, n = (m : Nat) ∧ l = cs L ∧ Fam m L)) := by
  unfold sets_Family
  refine gIte (fun h => gSome (.inr ⟨rfl, ?_⟩)) fun h => ?_
  · rintro ⟨m, L, rfl, rfl, hf⟩
    have := hf.m8; omega
  · obtain ⟨m, rfl⟩ := Int.eq_ofNat_of_zero_le (show 0 ≤ n by omega)
    refine gBind (R := fun z => match z with | .inl _ => ∀ k, k < l.length → 0 ≤ l.getD k 0 ∧ l.getD k 0 < ((2 ^ m : Nat) : Int) ∧ (0 < k → l.getD (k - 1) 0 < l.getD k 0) | .inr r => r = 1 ∧ ¬ ∀ k, k < l.length → 0 ≤ l.getD k 0 ∧ l.getD k 0 < ((2 ^ m : Nat) : Int) ∧ (0 < k → l.getD (k - 1) 0 < l.getD k 0))
      (gFor l.length (fun k v => v = (k : Int) ∧ ∀ j, j < k → 0 ≤ l.getD j 0 ∧ l.getD j 0 < ((2 ^ m : Nat) : Int) ∧ (0 < j → l.getD (j - 1) 0 < l.getD j 0)) (Nat.zero_le _) ⟨rfl, none_all⟩ ?_) ?_
    · rintro k _ hk ⟨rfl, hb⟩
      refine gIte (fun h1 => gChk (by omega) ?_) fun h1 => gSome fun j hj => hb j (by omega)
      have e : ((k : Int) - 1).toNat = k - 1 := by omega
      simp only [toNat_nat, shl_nat', e]
      refine gChk (by omega) (gIte (fun h2 => gSome ⟨rfl, fun h3 => ?_⟩) fun h2 => gSome ⟨by omega, by simp, step_all hb (by omega)⟩)
      have := h3 k (by omega)
      omega
    · rintro (u | rr) hz
      · refine gSome (.inl ⟨rfl, m, l.map Int.toNat, rfl, cs_of fun k hk => (hz k hk).1, by omega, fun s hs => ?_, fun i j hij hj => ?_⟩)
        · obtain ⟨k, h1, h2⟩ := mem_getD.1 hs
          rw [cs_of fun k hk => (hz k hk).1] at hz
          have := (hz k (by simpa using h1)).2.1
          rw [cs_get, h2] at this; omega
        · have hcs := cs_of fun k hk => (hz k hk).1
          have key : ∀ d i, i + d + 1 < l.length → l.getD i 0 < l.getD (i + d + 1) 0 := fun d => by
            induction d with
            | zero => intro i hi; exact (hz (i + 1) hi).2.2 (by omega)
            | succ d ih => intro i hi; have := ih i (by omega); have := (hz (i + (d + 1) + 1) hi).2.2 (by omega); rw [show i + (d + 1) + 1 - 1 = i + d + 1 by omega] at this; omega
          have := key (j - i - 1) i (by simp at hj; omega)
          rw [show i + (j - i - 1) + 1 = j by omega, hcs, cs_get, cs_get] at this
          omega
      · refine gSome (.inr ⟨hz.1, ?_⟩)
        rintro ⟨m', L, he, rfl, hf⟩
        have : m' = m := by omega
        subst this
        refine hz.2 fun k hk => ?_
        rw [cs_len] at hk
        rw [cs_get, cs_get]
        have h1 := hf.lt _ (mem_getD.2 ⟨k, hk, rfl⟩)
        refine ⟨by omega, by omega, fun h0 => ?_⟩
        have := hf.rise (k - 1) k (by omega) hk
        omega

theorem sets_Check_spec (n s : Int) : Gets (sets_Check n s) (fun r => (r = 0 ∧ ∃ m a : Nat, n = m ∧ m ≤ 8 ∧ s = a ∧ a < 2 ^ m) ∨ (r = 1 ∧ ¬ ∃ m a : Nat, n = m ∧ m ≤ 8 ∧ s = a ∧ a < 2 ^ m)) := by
  unfold sets_Check
  refine gChk (by omega) (gIte (fun h => gSome (.inr ⟨rfl, ?_⟩)) fun h => gSome (.inl ⟨rfl, n.toNat, s.toNat, by omega, by omega, by omega, ?_⟩))
  · rintro ⟨m, a, rfl, h1, rfl, h2⟩
    simp only [toNat_nat, shl_nat'] at h; omega
  · have h1 : 0 ≤ n := by omega
    obtain ⟨m, rfl⟩ := Int.eq_ofNat_of_zero_le h1
    simp only [toNat_nat, shl_nat'] at h ⊢; omega
theorem sets_Check_nat {m a : Nat} (h : m ≤ 8) (ha : a < 2 ^ m) : sets_Check m a = some 0 := by
  obtain ⟨r, h1, h2⟩ := sets_Check_spec m a
  rcases h2 with ⟨rfl, _⟩ | ⟨_, hn⟩
  · exact h1
  · exact absurd ⟨m, a, rfl, h, rfl, ha⟩ hn

theorem isNaN_eq (x : Int) : slices_isNaN_int x = some false := by simp [slices_isNaN_int]
theorem cisNaN_eq (x : Int) : cmp_isNaN_int x = some false := by simp [cmp_isNaN_int]
theorem Less_eq (x y : Int) : cmp_Less_int x y = some (decide (x < y)) := by simp [cmp_Less_int, cisNaN_eq]

theorem BinarySearch_spec (l : List Int) (t : Int) (hr : Rise l) (hl : l.length < 2 ^ 60) : Gets (slices_BinarySearch_int_int l t) (fun r => r.2 = true ↔ t ∈ l) := by
  unfold slices_BinarySearch_int_int
  refine gBind (R := fun i => ∃ k : Nat, i = (k : Int) ∧ k ≤ l.length ∧ (∀ j, j < k → l.getD j 0 < t) ∧ ∀ j, k ≤ j → j < l.length → t ≤ l.getD j 0)
    (gLoop (fun s => ∃ a b : Nat, s.1 = (a : Int) ∧ s.2 = (b : Int) ∧ a ≤ b ∧ b ≤ l.length ∧ (∀ j, j < a → l.getD j 0 < t) ∧ ∀ j, b ≤ j → j < l.length → t ≤ l.getD j 0) (fun s => (s.2 - s.1).toNat) ⟨0, l.length, rfl, rfl, Nat.zero_le _, Nat.le_refl _, none_all, fun j h1 h2 => by omega⟩ ?_) ?_
  · rintro ⟨_, _⟩ ⟨a, b, rfl, rfl, hab, hb, h1, h2⟩
    simp only
    refine gIte (fun h3 => ?_) fun h3 => gSome ⟨a, rfl, by omega, h1, fun j hj => h2 j (by omega)⟩
    have e : ((a : Int) + b) / 2 ^ 1 = (((a + b) / 2 : Nat) : Int) := by omega
    simp only [e, toNat_nat, Less_eq, Option.bind_some]
    refine gChk (by omega) (gChk (by omega) (gIte (fun h4 => gChk (by omega) (gSome ⟨⟨(a + b) / 2 + 1, b, by simp, rfl, by omega, hb, fun j hj => ?_, h2⟩, by simp only; omega⟩)) fun h4 => gSome ⟨⟨a, (a + b) / 2, rfl, rfl, by omega, by omega, h1, fun j h5 h6 => ?_⟩, by simp only; omega⟩))
    · have h4 := of_decide_eq_true h4
      rcases Nat.lt_or_ge j ((a + b) / 2) with q | q
      · have := hr j ((a + b) / 2) q (by omega); omega
      · have : j = (a + b) / 2 := by omega
        subst this; exact h4
    · have h4 : ¬ l.getD ((a + b) / 2) 0 < t := fun q => h4 (decide_eq_true q)
      rcases Nat.lt_or_ge ((a + b) / 2) j with q | q
      · have := hr ((a + b) / 2) j q h6; omega
      · have : j = (a + b) / 2 := by omega
        subst this; omega
  · rintro _ ⟨k, rfl, hk, h1, h2⟩
    have get : ∀ j, j < l.length → l.getD j 0 ∈ l := fun j hj => by
      rw [List.getD_eq_getElem?_getD, List.getElem?_eq_getElem hj]; exact List.getElem_mem hj
    refine gChk (by omega) ?_
    simp only [toNat_nat, isNaN_eq]
    refine gBindE (a := false) (by split <;> rfl) (gBindE (a := false) (by split <;> rfl) (gSome ?_))
    simp only [decide_eq_true_eq]
    constructor
    · rintro ⟨h3, h4⟩
      rcases h4 with h4 | h4
      · rw [← h4]; exact get k (by omega)
      · exact absurd h4.1 (by simp)
    · intro h3
      obtain ⟨j, hj, rfl⟩ := List.getElem_of_mem h3
      have ej : l.getD j 0 = l[j] := by rw [List.getD_eq_getElem?_getD, List.getElem?_eq_getElem hj]; rfl
      have hkj : k ≤ j := by
        rcases Nat.lt_or_ge j k with q | q
        · have := h1 j q; omega
        · exact q
      refine ⟨by omega, .inl ?_⟩
      have h5 := h2 k (Nat.le_refl _) (by omega)
      rcases Nat.lt_or_ge k j with q | q
      · have := hr k j q hj; omega
      · have : k = j := by omega
        subst this; exact ej

theorem slices_Index_spec (l : List Int) (t : Int) (hl : l.length < 2 ^ 60) : Gets (slices_Index_int_int l t) (fun r => (∃ k : Nat, r = k ∧ k < l.length ∧ l.getD k 0 = t ∧ ∀ j, j < k → l.getD j 0 ≠ t) ∨ (r = -1 ∧ t ∉ l)) := by
  unfold slices_Index_int_int
  refine gBind (R := fun z => match z with | .inl _ => ∀ k, k < l.length → l.getD k 0 ≠ t | .inr r => ∃ k : Nat, r = (k : Int) ∧ k < l.length ∧ l.getD k 0 = t ∧ ∀ j, j < k → l.getD j 0 ≠ t)
    (gFor l.length (fun k v => v = (k : Int) ∧ ∀ j, j < k → l.getD j 0 ≠ t) (Nat.zero_le _) ⟨rfl, none_all⟩ ?_) ?_
  · rintro k _ hk ⟨rfl, hb⟩
    refine gIte (fun h1 => gChk (by omega) ?_) fun h1 => gSome fun j hj => hb j (by omega)
    simp only [toNat_nat]
    exact gIte (fun h2 => gSome ⟨k, rfl, by omega, h2.symm, hb⟩) fun h2 => gSome ⟨by omega, by simp, step_all hb fun e => h2 e.symm⟩
  · rintro (u | rr) hz
    · refine gSome (.inr ⟨rfl, fun h => ?_⟩)
      obtain ⟨j, hj, rfl⟩ := List.getElem_of_mem h
      exact hz j hj (by rw [List.getD_eq_getElem?_getD, List.getElem?_eq_getElem hj]; rfl)
    · exact gSome (.inl hz)
theorem slices_Contains_spec (l : List Int) (t : Int) (hl : l.length < 2 ^ 60) : slices_Contains_int_int l t = some (decide (t ∈ l)) := by
  refine Gets.eq ?_
  unfold slices_Contains_int_int
  refine gBind (slices_Index_spec l t hl) fun r hr => gSome ?_
  rcases hr with ⟨k, rfl, h1, h2, _⟩ | ⟨rfl, h⟩
  · have : t ∈ l := by
      rw [← h2, List.getD_eq_getElem?_getD, List.getElem?_eq_getElem h1]; exact List.getElem_mem h1
    simp [this]
  · simp [h]

/-! ### elements one by one -/
/-- The least element. -/
def lo1 (t : Nat) : Nat := if t.testBit 0 then 0 else if t.testBit 1 then 1 else if t.testBit 2 then 2 else if t.testBit 3 then 3 else if t.testBit 4 then 4 else if t.testBit 5 then 5 else if t.testBit 6 then 6 else 7
theorem low_tab : ∀ t : Fin 256, t.val ≠ 0 → (iand (t.val : Int) (-(t.val : Int)) = ((2 ^ lo1 t.val : Nat) : Int) ∧ iand (t.val : Int) ((t.val : Int) - 1) = ((dif t.val (2 ^ lo1 t.val) : Nat) : Int) ∧ t.val.testBit (lo1 t.val) = true ∧ (∀ j : Fin 8, j.val < lo1 t.val → t.val.testBit j.val = false) ∧ dif t.val (2 ^ lo1 t.val) < t.val) :=
  of_decide_eq_true (by kernel_rfl)
structure IsLow (t i : Nat) : Prop where
  neg : iand (t : Int) (-(t : Int)) = ((2 ^ i : Nat) : Int)
  rest : iand (t : Int) ((t : Int) - 1) = ((dif t (2 ^ i) : Nat) : Int)
  bit : t.testBit i = true
  least : ∀ j, j < i → t.testBit j = false
  less : dif t (2 ^ i) < t
theorem low_spec {t : Nat} (h : t < 256) (h0 : t ≠ 0) : IsLow t (lo1 t) := by
  obtain ⟨h1, h2, h3, h4, h5⟩ := low_tab ⟨t, h⟩ h0
  refine ⟨h1, h2, h3, fun j hj => ?_, h5⟩
  have : lo1 t < 8 := by unfold lo1; repeat' split <;> (try omega)
  exact h4 ⟨j, by omega⟩ hj
end Go.SH
