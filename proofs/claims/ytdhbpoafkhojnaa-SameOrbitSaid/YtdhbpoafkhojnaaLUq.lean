/-
  Sets in whatever order, sorted: each but once, or all. Conditions: none.
-/
import Derived.Test.YtdhbpoafkhojnaaLSt
import Derived.Test.YtdhbpoafkhojnaaAxP
set_option linter.unusedSimpArgs false
set_option linter.unusedVariables false
namespace Go.SH
open Go Go.AX


/-! ### sorted, each but once -/
theorem sortL_sorted (xs : List Int) : (sortL xs).Pairwise (· ≤ ·) := by
  have := List.pairwise_mergeSort (le := fun x y : Int => decide (x ≤ y)) (fun a b c h1 h2 => by simp only [decide_eq_true_eq] at *; omega) (fun a b => by simp only [Bool.or_eq_true, decide_eq_true_eq]; omega) xs
  exact this.imp fun h => of_decide_eq_true h
theorem sortL_mem {xs : List Int} {y : Int} : y ∈ sortL xs ↔ y ∈ xs := (List.mergeSort_perm _ _).mem_iff
theorem uniq_all {zs : List Int} {y : Int} (h : y ∈ zs) : y ∈ uniqL zs := by
  have key : ∀ j, j < zs.length → zs.getD j 0 = y → y ∈ uniqL zs := by
    intro j
    induction j with
    | zero =>
      intro hj e
      unfold uniqL Lib.compact Lib.compactUpTo
      rw [List.mem_map]
      refine ⟨0, List.mem_filter.2 ⟨List.mem_range.2 hj, by simp [Lib.keeps]⟩, ?_⟩
      rw [getElem!_pos zs.toArray 0 (by simpa using hj), ← e, List.getD_eq_getElem?_getD, List.getElem?_eq_getElem hj]; simp
    | succ j ih =>
      intro hj e
      by_cases c : zs.getD j 0 = y
      · exact ih (by omega) c
      · unfold uniqL Lib.compact Lib.compactUpTo
        rw [List.mem_map]
        have e1 : zs.toArray[j + 1]! = y := by
          rw [getElem!_pos zs.toArray (j + 1) (by simpa using hj), ← e, List.getD_eq_getElem?_getD, List.getElem?_eq_getElem hj]; simp
        have e2 : zs.toArray[j]! = zs.getD j 0 := by
          rw [getElem!_pos zs.toArray j (by simp; omega), List.getD_eq_getElem?_getD, List.getElem?_eq_getElem (by omega)]; simp
        refine ⟨j + 1, List.mem_filter.2 ⟨List.mem_range.2 hj, ?_⟩, e1⟩
        unfold Lib.keeps
        refine decide_eq_true (.inr ?_)
        rw [e1, Nat.add_sub_cancel, e2]
        exact fun q => c q.symm
  obtain ⟨j, hj, e⟩ := List.getElem_of_mem h
  exact key j hj (by rw [List.getD_eq_getElem?_getD, List.getElem?_eq_getElem hj]; exact e)
theorem uniq_rise {zs : List Int} (h : zs.Pairwise (· ≤ ·)) : (uniqL zs).Pairwise (· < ·) := by
  unfold uniqL Lib.compact Lib.compactUpTo
  rw [List.pairwise_map]
  refine List.Pairwise.imp_of_mem ?_ (List.Pairwise.filter _ List.pairwise_lt_range)
  intro a b ha hb hab
  have hb1 := List.mem_range.1 (List.mem_filter.1 hb).1
  have hb2 := (List.mem_filter.1 hb).2
  unfold Lib.keeps at hb2
  have hb3 := of_decide_eq_true hb2
  have get : ∀ i (hi : i < zs.length), zs.toArray[i]! = zs[i] := fun i hi => by
    rw [getElem!_pos zs.toArray i (by simpa using hi)]; simp
  rw [List.pairwise_iff_getElem] at h
  rcases hb3 with q | q
  · omega
  · have e1 := get b hb1
    have e2 := get (b - 1) (by omega)
    rw [e1, e2] at q
    rw [e1, get a (by omega)]
    have h1 := h (b - 1) b (by omega) hb1 (by omega)
    rcases Nat.lt_or_ge a (b - 1) with c | c
    · have h2 := h a (b - 1) (by omega) (by omega) c
      have : zs[b] ≠ zs[b - 1] := q
      omega
    · have : a = b - 1 := by omega
      subst this
      have : zs[b] ≠ zs[b - 1] := q
      omega
/-- Sets in whatever order, sorted, each but once: a family of the same sets. -/
theorem sortU {m : Nat} (h8 : m ≤ 8) (N : List Nat) (hlt : ∀ s, s ∈ N → s < 2 ^ m) : ∃ K, uniqL (sortL (cs N)) = cs K ∧ Fam m K ∧ ∀ s, s ∈ K ↔ s ∈ N := by
  have hmem : ∀ y, y ∈ uniqL (sortL (cs N)) ↔ y ∈ cs N := fun y => ⟨fun h => sortL_mem.1 (uniqL_mem h), fun h => uniq_all (sortL_mem.2 h)⟩
  have hri := uniq_rise (sortL_sorted (cs N))
  generalize uniqL (sortL (cs N)) = Z at *
  have hcs : Z = cs (Z.map Int.toNat) := cs_of fun k hk => by
    have : Z.getD k 0 ∈ Z := by rw [List.getD_eq_getElem?_getD, List.getElem?_eq_getElem hk]; exact List.getElem_mem hk
    obtain ⟨a, _, e⟩ := List.mem_map.1 (show Z.getD k 0 ∈ N.map Nat.cast from (hmem _).1 this)
    omega
  have hK : ∀ s : Nat, s ∈ Z.map Int.toNat ↔ s ∈ N := fun s => by
    rw [← cs_mem, ← hcs, hmem, cs_mem]
  refine ⟨Z.map Int.toNat, hcs, ⟨h8, fun s hs => hlt s ((hK s).1 hs), fun i j hij hj => ?_⟩, hK⟩
  rw [List.pairwise_iff_getElem] at hri
  have hj' : j < Z.length := by simpa using hj
  have h1 := hri i j (by omega) hj' hij
  have g : ∀ k (hk : k < Z.length), ((Z.map Int.toNat).getD k 0 : Int) = Z[k] := fun k hk => by
    have := cs_get (Z.map Int.toNat) k
    rw [← hcs] at this
    rw [← this, List.getD_eq_getElem?_getD, List.getElem?_eq_getElem hk]; rfl
  have h2 := g i (by omega)
  have h3 := g j hj'
  omega

/-- Sets told apart, sorted. -/
theorem sortF {m : Nat} {N K : List Nat} (hn : N.Nodup) (hK : Fam m K) (h : ∀ s, s ∈ K ↔ s ∈ N) : sortL (cs N) = cs K := by
  have hs := sortL_sorted (cs N)
  have hp : List.Perm (sortL (cs N)) (cs N) := List.mergeSort_perm _ _
  have hcn : (cs N).Nodup := by
    refine List.pairwise_map.2 (List.Pairwise.imp ?_ hn)
    intro a b q e
    exact q (Int.ofNat.inj e)
  have hnd : (sortL (cs N)).Nodup := hp.nodup_iff.2 hcn
  have hri : (sortL (cs N)).Pairwise (· < ·) := List.Pairwise.imp (by intro a b q; have := q.1; have := q.2; omega) (hs.and hnd)
  have hmem : ∀ y, y ∈ sortL (cs N) ↔ y ∈ cs N := fun y => sortL_mem
  generalize sortL (cs N) = Z at *
  have hcs : Z = cs (Z.map Int.toNat) := cs_of fun k hk => by
    have : Z.getD k 0 ∈ Z := by rw [List.getD_eq_getElem?_getD, List.getElem?_eq_getElem hk]; exact List.getElem_mem hk
    obtain ⟨a, _, e⟩ := List.mem_map.1 (show Z.getD k 0 ∈ N.map Nat.cast from (hmem _).1 this)
    omega
  have hK2 : ∀ s : Nat, s ∈ Z.map Int.toNat ↔ s ∈ K := fun s => by
    rw [← cs_mem, ← hcs, hmem, cs_mem, h]
  have hf : Fam m (Z.map Int.toNat) := ⟨hK.m8, fun s hs => hK.lt s ((hK2 s).1 hs), fun i j hij hj => ?_⟩
  · rw [hcs, hf.ext hK hK2]
  rw [List.pairwise_iff_getElem] at hri
  have hj' : j < Z.length := by simpa using hj
  have h1 := hri i j (by omega) hj' hij
  have g : ∀ k (hk : k < Z.length), ((Z.map Int.toNat).getD k 0 : Int) = Z[k] := fun k hk => by
    have := cs_get (Z.map Int.toNat) k
    rw [← hcs] at this
    rw [← this, List.getD_eq_getElem?_getD, List.getElem?_eq_getElem hk]; rfl
  have h2 := g i (by omega)
  have h3 := g j hj'
  omega
end Go.SH
