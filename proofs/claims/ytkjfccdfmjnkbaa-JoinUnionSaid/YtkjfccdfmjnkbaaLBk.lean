/-
  EDMONDS, FULKERSON: the Blocker's Blocker; the statement SetsBlock as a plain law. Conditions: lists are no longer than 2^63 - 1.
-/
import Derived.Test.YtkjfccdfmjnkbaaLM
import Derived.Test.YtkjfccdfmjnkbaaLA
import Derived.Test.YtkjfccdfmjnkbaaAxP
import Derived.Test.YtkjfccdfmjnkbaaSpsets
import Derived.Test.YtkjfccdfmjnkbaaSpslices
import Derived.Test.YtkjfccdfmjnkbaaSprotalaw
set_option linter.unusedSimpArgs false
set_option linter.unusedVariables false
namespace Go.SH
open Go Go.AX

/-! ### sorted, each but once -/
theorem sortL_sorted (xs : List Int) : (sortL xs).Pairwise (· ≤ ·) := by
  have := List.pairwise_mergeSort (le := fun x y : Int => decide (x ≤ y)) (fun a b c h1 h2 => by simp only [decide_eq_true_eq] at *; omega) (fun a b => by simp only [Bool.or_eq_true, decide_eq_true_eq]; omega) xs
  exact this.imp fun h => of_decide_eq_true h
theorem sortL_mem {xs : List Int} {y : Int} : y ∈ sortL xs ↔ y ∈ xs := (List.mergeSort_perm _ _).mem_iff
theorem uniq_all {zs : List Int} {y : Int} (h : y ∈ zs) : y ∈ uniqL zs := by
  have key : ∀ j, j < zs.length → zs.getD j 0 = y → y ∈ uniqL zs := by
    intro j
    induction j with
    | zero =>
      intro hj e
      unfold uniqL Lib.compact Lib.compactUpTo
      rw [List.mem_map]
      refine ⟨0, List.mem_filter.2 ⟨List.mem_range.2 hj, by simp [Lib.keeps]⟩, ?_⟩
      rw [getElem!_pos zs.toArray 0 (by simpa using hj), ← e, List.getD_eq_getElem?_getD, List.getElem?_eq_getElem hj]; simp
    | succ j ih =>
      intro hj e
      by_cases c : zs.getD j 0 = y
      · exact ih (by omega) c
      · unfold uniqL Lib.compact Lib.compactUpTo
        rw [List.mem_map]
        have e1 : zs.toArray[j + 1]! = y := by
          rw [getElem!_pos zs.toArray (j + 1) (by simpa using hj), ← e, List.getD_eq_getElem?_getD, List.getElem?_eq_getElem hj]; simp
        have e2 : zs.toArray[j]! = zs.getD j 0 := by
          rw [getElem!_pos zs.toArray j (by simp; omega), List.getD_eq_getElem?_getD, List.getElem?_eq_getElem (by omega)]; simp
        refine ⟨j + 1, List.mem_filter.2 ⟨List.mem_range.2 hj, ?_⟩, e1⟩
        unfold Lib.keeps
        refine decide_eq_true (.inr ?_)
        rw [e1, Nat.add_sub_cancel, e2]
        exact fun q => c q.symm
  obtain ⟨j, hj, e⟩ := List.getElem_of_mem h
  exact key j hj (by rw [List.getD_eq_getElem?_getD, List.getElem?_eq_getElem hj]; exact e)
theorem uniq_rise {zs : List Int} (h : zs.Pairwise (· ≤ ·)) : (uniqL zs).Pairwise (· < ·) := by
  unfold uniqL Lib.compact Lib.compactUpTo
  rw [List.pairwise_map]
  refine List.Pairwise.imp_of_mem ?_ (List.Pairwise.filter _ List.pairwise_lt_range)
  intro a b ha hb hab
  have hb1 := List.mem_range.1 (List.mem_filter.1 hb).1
  have hb2 := (List.mem_filter.1 hb).2
  unfold Lib.keeps at hb2
  have hb3 := of_decide_eq_true hb2
  have get : ∀ i (hi : i < zs.length), zs.toArray[i]! = zs[i] := fun i hi => by
    rw [getElem!_pos zs.toArray i (by simpa using hi)]; simp
  rw [List.pairwise_iff_getElem] at h
  rcases hb3 with q | q
  · omega
  · have e1 := get b hb1
    have e2 := get (b - 1) (by omega)
    rw [e1, e2] at q
    rw [e1, get a (by omega)]
    have h1 := h (b - 1) b (by omega) hb1 (by omega)
    rcases Nat.lt_or_ge a (b - 1) with c | c
    · have h2 := h a (b - 1) (by omega) (by omega) c
      have : zs[b] ≠ zs[b - 1] := q
      omega
    · have : a = b - 1 := by omega
      subst this
      have : zs[b] ≠ zs[b - 1] := q
      omega
/-- Sets in whatever order, sorted, each but once: a family of the same sets. -/
theorem sortU {m : Nat} (h8 : m ≤ 8) (N : List Nat) (hlt : ∀ s, s ∈ N → s < 2 ^ m) : ∃ K, uniqL (sortL (cs N)) = cs K ∧ Fam m K ∧ ∀ s, s ∈ K ↔ s ∈ N := by
  have hmem : ∀ y, y ∈ uniqL (sortL (cs N)) ↔ y ∈ cs N := fun y => ⟨fun h => sortL_mem.1 (uniqL_mem h), fun h => uniq_all (sortL_mem.2 h)⟩
  have hri := uniq_rise (sortL_sorted (cs N))
  generalize uniqL (sortL (cs N)) = Z at *
  have hcs : Z = cs (Z.map Int.toNat) := cs_of fun k hk => by
    have : Z.getD k 0 ∈ Z := by rw [List.getD_eq_getElem?_getD, List.getElem?_eq_getElem hk]; exact List.getElem_mem hk
    obtain ⟨a, _, e⟩ := List.mem_map.1 (show Z.getD k 0 ∈ N.map Nat.cast from (hmem _).1 this)
    omega
  have hK : ∀ s : Nat, s ∈ Z.map Int.toNat ↔ s ∈ N := fun s => by
    rw [← cs_mem, ← hcs, hmem, cs_mem]
  refine ⟨Z.map Int.toNat, hcs, ⟨h8, fun s hs => hlt s ((hK s).1 hs), fun i j hij hj => ?_⟩, hK⟩
  rw [List.pairwise_iff_getElem] at hri
  have hj' : j < Z.length := by simpa using hj
  have h1 := hri i j (by omega) hj' hij
  have g : ∀ k (hk : k < Z.length), ((Z.map Int.toNat).getD k 0 : Int) = Z[k] := fun k hk => by
    have := cs_get (Z.map Int.toNat) k
    rw [← hcs] at this
    rw [← this, List.getD_eq_getElem?_getD, List.getElem?_eq_getElem hk]; rfl
  have h2 := g i (by omega)
  have h3 := g j hj'
  omega

/-! ### least sets -/
/-- The least sets of a list. -/
def Lst (L : List Nat) (s : Nat) : Prop := s ∈ L ∧ ∀ t, t ∈ L → Inc t s → t = s
instance (L : List Nat) (s : Nat) : Decidable (Lst L s) := by unfold Lst; infer_instance
def lstL (L : List Nat) : List Nat := L.filter fun s => decide (∀ t, t ∈ L → Inc t s → t = s)
theorem mem_lstL {L : List Nat} {s : Nat} : s ∈ lstL L ↔ Lst L s := by
  unfold lstL Lst
  rw [List.mem_filter, decide_eq_true_eq]
theorem fam_filter {m : Nat} {L : List Nat} (h : Fam m L) (p : Nat → Bool) : Fam m (L.filter p) := by
  refine ⟨h.m8, fun s hs => h.lt s (List.mem_filter.1 hs).1, fun i j hij hj => ?_⟩
  have h1 : L.Pairwise (· < ·) := by
    rw [List.pairwise_iff_getElem]
    intro i j hi hj hij
    have := h.rise i j hij hj
    simpa [List.getD_eq_getElem?_getD, List.getElem?_eq_getElem hi, List.getElem?_eq_getElem hj] using this
  have h2 := List.Pairwise.filter p h1
  rw [List.pairwise_iff_getElem] at h2
  have := h2 i j (by omega) hj hij
  simpa [List.getD_eq_getElem?_getD, List.getElem?_eq_getElem (show i < (L.filter p).length by omega), List.getElem?_eq_getElem hj] using this
theorem ContainsFuncB {L : List Nat} {f : Int → Option Bool} {p : Nat → Bool} (hl : L.length < 2 ^ 60) (hf : ∀ s, s ∈ L → f (s : Nat) = some (p s)) :
    Gets (slices_ContainsFunc_int_int (cs L) f) (fun r => r = true ↔ ∃ s, s ∈ L ∧ p s = true) := by
  unfold slices_ContainsFunc_int_int slices_IndexFunc_int_int
  refine gBind (R := fun r : Int => 0 ≤ r ↔ ∃ s, s ∈ L ∧ p s = true) (gBind (R := fun z => match z with | .inl _ => ∀ k, k < L.length → p (L.getD k 0) = false | .inr r => 0 ≤ r ∧ ∃ s, s ∈ L ∧ p s = true)
    (gFor L.length (fun k v => v = (k : Int) ∧ ∀ j, j < k → p (L.getD j 0) = false) (Nat.zero_le _) ⟨rfl, none_all⟩ ?_) ?_) fun r hr => gSome ?_
  · rintro k _ hk ⟨rfl, hb⟩
    simp only [cs_len, cs_get, toNat_nat]
    refine gIte (fun h1 => gChk (by omega) ?_) fun h1 => gSome fun j hj => hb j (by omega)
    have hk' : k < L.length := by omega
    have hm : L.getD k 0 ∈ L := mem_getD.2 ⟨k, hk', rfl⟩
    rw [hf _ hm]
    simp only [Option.bind_some]
    refine gIte (fun q => gSome ⟨by omega, _, hm, q⟩) fun q => gSome ⟨hk', by simp, step_all hb (bool_ne q)⟩
  · rintro (u | rr) hz
    · refine gSome ⟨fun q => absurd q (by omega), fun ⟨s, hs, hp⟩ => ?_⟩
      obtain ⟨k, hk, rfl⟩ := mem_getD.1 hs
      rw [hz k hk] at hp; cases hp
    · exact gSome ⟨fun _ => hz.2, fun _ => hz.1⟩
  · rw [decide_eq_true_eq]; exact hr
theorem FamilyB {m : Nat} {L : List Nat} (h : Fam m L) : sets_Family m (cs L) = some 0 := by
  obtain ⟨r, h1, h2⟩ := sets_Family_spec m (cs L) (by have := h.len; simp; omega)
  rcases h2 with ⟨rfl, _⟩ | ⟨_, hn⟩
  · exact h1
  · exact absurd ⟨m, L, rfl, rfl, h⟩ hn
def Hits (L : List Nat) (b : Nat) : Prop := ∀ s, s ∈ L → b &&& s ≠ 0
instance (L : List Nat) (b : Nat) : Decidable (Hits L b) := by unfold Hits; infer_instance
/-- Least of what meets all. -/
def MinHit (m : Nat) (L : List Nat) (b : Nat) : Prop := b < 2 ^ m ∧ Hits L b ∧ ∀ t, t < 2 ^ m → Inc t b → Hits L t → t = b
instance (m : Nat) (L : List Nat) (b : Nat) : Decidable (MinHit m L b) := by unfold MinHit; infer_instance
theorem Hits.mono {L : List Nat} {a b : Nat} (h : Hits L a) (hab : Inc a b) : Hits L b := fun s hs q => h s hs (by
  rw [disj_iff] at q ⊢
  exact fun i hi => q i (hab i hi))
theorem meet_iff {a b : Nat} : a &&& b ≠ 0 ↔ ∃ i, a.testBit i = true ∧ b.testBit i = true := by
  constructor
  · intro h
    obtain ⟨i, hi⟩ := exists_bit h
    rw [Nat.testBit_and, Bool.and_eq_true] at hi
    exact ⟨i, hi⟩
  · rintro ⟨i, h1, h2⟩ q
    have := (disj_iff a b).1 q i h1
    rw [h2] at this; cases this
theorem minHit_in {m : Nat} {L : List Nat} : ∀ (k t : Nat), cnt m t ≤ k → t < 2 ^ m → Hits L t → ∃ b, MinHit m L b ∧ Inc b t := by
  intro k
  induction k with
  | zero =>
    intro t hk ht h
    refine ⟨t, ⟨ht, h, fun u hu hi _ => ?_⟩, Inc.refl t⟩
    exact inc_eq_of_cnt hi ht (by omega)
  | succ k ih =>
    intro t hk ht h
    rcases Classical.em (∃ u, u < 2 ^ m ∧ Inc u t ∧ Hits L u ∧ u ≠ t) with ⟨u, u1, u2, u3, u4⟩ | q
    · have hlt : cnt m u < cnt m t := by
        rcases Nat.lt_or_ge (cnt m u) (cnt m t) with c | c
        · exact c
        · exact absurd (inc_eq_of_cnt u2 ht c) u4
      obtain ⟨b, b1, b2⟩ := ih u (by omega) u1 u3
      exact ⟨b, b1, b2.trans u2⟩
    · refine ⟨t, ⟨ht, h, fun u hu hi hh => ?_⟩, Inc.refl t⟩
      rcases Nat.decEq u t with e | e
      · exact absurd ⟨u, hu, hi, hh, e⟩ q
      · exact e
/-- What a set that meets all so far makes of the next one. -/
def Ext (m b s x : Nat) : Prop := (b &&& s ≠ 0 ∧ x = b) ∨ (b &&& s = 0 ∧ ∃ i, i < m ∧ s.testBit i = true ∧ x = b ||| 2 ^ i)
theorem minHit_step {m : Nat} {L R N : List Nat} {s : Nat} (hs : s < 2 ^ m) (hR : ∀ b, b ∈ R ↔ MinHit m L b) (hN : ∀ x, x ∈ N ↔ ∃ b, b ∈ R ∧ Ext m b s x) (b : Nat) : Lst N b ↔ MinHit m (L ++ [s]) b := by
  have hits : ∀ x, x ∈ N → x < 2 ^ m ∧ Hits (L ++ [s]) x := fun x hx => by
    obtain ⟨b, hb, he⟩ := (hN x).1 hx
    obtain ⟨b1, b2, b3⟩ := (hR b).1 hb
    rcases he with ⟨e1, rfl⟩ | ⟨_, i, hi, e2, rfl⟩
    · refine ⟨b1, fun u hu => ?_⟩
      rcases List.mem_append.1 hu with q | q
      · exact b2 u q
      · rw [List.mem_singleton.1 q]; exact e1
    · refine ⟨or_lt b1 (pow_lt hi), fun u hu => ?_⟩
      rcases List.mem_append.1 hu with q | q
      · exact b2.mono (inc_or_l _ _) u q
      · rw [List.mem_singleton.1 q, meet_iff]
        exact ⟨i, by rw [Nat.testBit_or, testBit_pow]; simp, e2⟩
  have cof : ∀ t, t < 2 ^ m → Hits (L ++ [s]) t → ∃ x, x ∈ N ∧ Inc x t := fun t ht h => by
    obtain ⟨b, b1, b2⟩ := minHit_in (m := m) (L := L) _ t (Nat.le_refl _) ht fun u hu => h u (List.mem_append.2 (.inl hu))
    by_cases c : b &&& s = 0
    · obtain ⟨i, i1, i2⟩ := meet_iff.1 (h s (by simp))
      exact ⟨b ||| 2 ^ i, (hN _).2 ⟨b, (hR b).2 b1, .inr ⟨c, i, bit_lt hs i2, i2, rfl⟩⟩, inc_or b2 (inc_pow i1)⟩
    · exact ⟨b, (hN _).2 ⟨b, (hR b).2 b1, .inl ⟨c, rfl⟩⟩, b2⟩
  constructor
  · rintro ⟨h1, h2⟩
    obtain ⟨h3, h4⟩ := hits b h1
    refine ⟨h3, h4, fun t ht hi hh => ?_⟩
    obtain ⟨x, x1, x2⟩ := cof t ht hh
    have := h2 x x1 (x2.trans hi)
    subst this
    exact Inc.antisymm hi x2
  · rintro ⟨h1, h2, h3⟩
    obtain ⟨x, x1, x2⟩ := cof b h1 h2
    obtain ⟨x3, x4⟩ := hits x x1
    have := h3 x x3 x2 x4
    subst this
    refine ⟨x1, fun t ht hi => ?_⟩
    obtain ⟨t1, t2⟩ := hits t ht
    exact h3 t t1 hi t2
theorem bitB (s a : Nat) : iand ((s : Int) / ((2 ^ a : Nat) : Int)) 1 = if s.testBit a then 1 else 0 := by
  have := bit_nat s a
  rwa [toNat_nat, shl_nat'] at this

/-- The Blocker of the Blocker: the least sets. -/
theorem block_block {m : Nat} {L R : List Nat} (hL : Fam m L) (hR : ∀ b, b ∈ R ↔ MinHit m L b) (x : Nat) : MinHit m R x ↔ Lst L x := by
  have hpos : 0 < 2 ^ m := Nat.pow_pos (by omega)
  have key : ∀ t, t < 2 ^ m → (Hits R t ↔ ∃ s, s ∈ L ∧ Inc s t) := fun t ht => by
    constructor
    · intro h
      rcases Classical.em (∃ s, s ∈ L ∧ Inc s t) with q | q
      · exact q
      · exfalso
        have hc : Hits L (dif (2 ^ m - 1) t) := fun s hs => by
          rw [meet_iff]
          have : ¬ Inc s t := fun e => q ⟨s, hs, e⟩
          obtain ⟨i, i1, i2⟩ := not_inc this
          have := bit_lt (hL.lt s hs) i1
          exact ⟨i, by rw [testBit_dif, Nat.testBit_two_pow_sub_one, i2]; simpa using this, i1⟩
        obtain ⟨b, b1, b2⟩ := minHit_in (m := m) _ _ (Nat.le_refl _) (dif_lt (by omega)) hc
        refine h b ((hR b).2 b1) ?_
        rw [disj_iff]
        intro i hi
        cases hq : b.testBit i with
        | false => rfl
        | true =>
          have := b2 i hq
          rw [testBit_dif, hi, Bool.not_true, Bool.and_false] at this; cases this
    · rintro ⟨s, hs, hi⟩ b hb
      obtain ⟨_, b2, _⟩ := (hR b).1 hb
      obtain ⟨i, i1, i2⟩ := meet_iff.1 (b2 s hs)
      exact meet_iff.2 ⟨i, hi i i2, i1⟩
  constructor
  · rintro ⟨x1, x2, x3⟩
    obtain ⟨s, hs, hi⟩ := (key x x1).1 x2
    have hsm := hL.lt s hs
    have := x3 s hsm hi ((key s hsm).2 ⟨s, hs, Inc.refl s⟩)
    subst this
    refine ⟨hs, fun t ht hi2 => ?_⟩
    have htm := hL.lt t ht
    exact x3 t htm hi2 ((key t htm).2 ⟨t, ht, Inc.refl t⟩)
  · rintro ⟨x1, x2⟩
    have hxm := hL.lt x x1
    refine ⟨hxm, (key x hxm).2 ⟨x, x1, Inc.refl x⟩, fun t ht hi hh => ?_⟩
    obtain ⟨s, hs, hi2⟩ := (key t ht).1 hh
    have := x2 s hs (hi2.trans hi)
    subst this
    exact Inc.antisymm hi hi2

theorem SameB (l : List Int) : rotalaw_Same_int l l = some true := by
  refine Gets.eq ?_
  unfold rotalaw_Same_int
  refine gIte (fun q => absurd rfl q) fun _ => gBind (R := fun z => match z with | .inl _ => True | .inr r => False) (gFor l.length (fun k v => v = (k : Int)) (Nat.zero_le _) rfl ?_) ?_
  · rintro k _ hk rfl
    exact gIte (fun h1 => gChk (by omega) (gIte (fun q => absurd rfl q) fun _ => gSome ⟨by omega, by simp⟩)) fun _ => gSome trivial
  · rintro (u | rr) hz
    · exact gSome rfl
    · exact hz.elim
theorem minHit_three : ∀ s, s < 4 → (MinHit 2 [3] s ↔ s ∈ [1, 2]) := by
  have key : ∀ s, s < 2 ^ 2 → (Hits [3] s ↔ s ≠ 0) := fun s hs => by
    have : s = 0 ∨ s = 1 ∨ s = 2 ∨ s = 3 := by omega
    unfold Hits
    rcases this with rfl | rfl | rfl | rfl <;> simp
  have sub : ∀ t s, t < 4 → s < 4 → Inc t s → t &&& s = t := fun t s _ _ h => (sub_iff_and _ _).2 h
  intro s hs
  constructor
  · rintro ⟨h1, h2, h3⟩
    rw [key s h1] at h2
    have : s = 1 ∨ s = 2 ∨ s = 3 := by omega
    rcases this with rfl | rfl | rfl
    · simp
    · simp
    · have := h3 1 (by omega) ((sub_iff_and _ _).1 rfl) ((key 1 (by omega)).2 (by omega))
      omega
  · intro h
    have h12 : s = 1 ∨ s = 2 := by simpa using h
    refine ⟨hs, (key s hs).2 (by omega), fun t ht hi hh => ?_⟩
    have ht0 := (key t ht).1 hh
    have h4 := sub t s ht hs hi
    have : t = 1 ∨ t = 2 ∨ t = 3 := by omega
    rcases h12 with rfl | rfl <;> rcases this with rfl | rfl | rfl <;> first | rfl | (exact absurd h4 (by decide))

end Go.SH
