/-
  The statement ComplexEuler as a plain law: the numbers f, h, Euler's number, the dual, the link. Conditions: lists are no longer than 2^63 - 1.
-/
import Derived.Test.YtcjhpcbipcdhiaaLCb
import Derived.Test.YtcjhpcbipcdhiaaLP
import Derived.Test.YtcjhpcbipcdhiaaAxP
set_option linter.unusedSimpArgs false
set_option linter.unusedVariables false
namespace Go.SH
open Go Go.AX

theorem sortS {m : Nat} (h8 : m ≤ 8) (N : List Nat) (hlt : ∀ s, s ∈ N → s < 2 ^ m) (hnd : N.Nodup) : ∃ K, sortL (cs N) = cs K ∧ Fam m K ∧ ∀ s, s ∈ K ↔ s ∈ N := by
  have hperm : (sortL (cs N)).Perm (cs N) := List.mergeSort_perm _ _
  have hso : (sortL (cs N)).Pairwise (· ≤ ·) := by
    have := List.pairwise_mergeSort (le := fun x y : Int => decide (x ≤ y)) (fun a b c h1 h2 => by simp only [decide_eq_true_eq] at *; omega) (fun a b => by simp only [Bool.or_eq_true, decide_eq_true_eq]; omega) (cs N)
    exact this.imp fun h => of_decide_eq_true h
  have hnd2 : (sortL (cs N)).Nodup := hperm.nodup_iff.2 (List.pairwise_map.2 (hnd.imp fun h e => h (Int.ofNat.inj e)))
  have hri : (sortL (cs N)).Pairwise (· < ·) := (hso.and hnd2).imp fun h => by have := h.1; have := h.2; omega
  have hmem : ∀ y, y ∈ sortL (cs N) ↔ y ∈ cs N := fun y => hperm.mem_iff
  generalize sortL (cs N) = Z at *
  have hcs : Z = cs (Z.map Int.toNat) := cs_of fun k hk => by
    have : Z.getD k 0 ∈ Z := by rw [List.getD_eq_getElem?_getD, List.getElem?_eq_getElem hk]; exact List.getElem_mem hk
    obtain ⟨a, _, e⟩ := List.mem_map.1 (show Z.getD k 0 ∈ N.map Nat.cast from (hmem _).1 this)
    omega
  have hK : ∀ s : Nat, s ∈ Z.map Int.toNat ↔ s ∈ N := fun s => by rw [← cs_mem, ← hcs, hmem, cs_mem]
  refine ⟨Z.map Int.toNat, hcs, ⟨h8, fun s hs => hlt s ((hK s).1 hs), fun i j hij hj => ?_⟩, hK⟩
  rw [List.pairwise_iff_getElem] at hri
  have hj' : j < Z.length := by simpa using hj
  have h1 := hri i j (by omega) hj' hij
  have g : ∀ k (hk : k < Z.length), ((Z.map Int.toNat).getD k 0 : Int) = Z[k] := fun k hk => by
    have := cs_get (Z.map Int.toNat) k
    rw [← hcs] at this
    rw [← this, List.getD_eq_getElem?_getD, List.getElem?_eq_getElem hk]; rfl
  have h2 := g i (by omega)
  have h3 := g j hj'
  omega
theorem fam_sub {m : Nat} {L : List Nat} (h : Fam m L) (p : Nat → Bool) : Fam m (L.filter p) := by
  refine ⟨h.m8, fun s hs => h.lt s (List.mem_filter.1 hs).1, fun i j hij hj => ?_⟩
  have h1 : L.Pairwise (· < ·) := by
    rw [List.pairwise_iff_getElem]
    intro i j hi hj hij
    have := h.rise i j hij hj
    simpa [List.getD_eq_getElem?_getD, List.getElem?_eq_getElem hi, List.getElem?_eq_getElem hj] using this
  have h2 := List.Pairwise.filter p h1
  rw [List.pairwise_iff_getElem] at h2
  have := h2 i j (by omega) hj hij
  simpa [List.getD_eq_getElem?_getD, List.getElem?_eq_getElem (show i < (L.filter p).length by omega), List.getElem?_eq_getElem hj] using this
theorem Fam.nodup {m : Nat} {L : List Nat} (h : Fam m L) : L.Nodup := by
  unfold List.Nodup
  rw [List.pairwise_iff_getElem]
  intro i j hi hj hij
  have := h.rise i j hij hj
  simp [List.getD_eq_getElem?_getD, List.getElem?_eq_getElem hi, List.getElem?_eq_getElem hj] at this
  omega

/-! ### greatest sets -/
def mostL (L : List Nat) : List Nat := L.filter fun s => decide (∀ t, t ∈ L → Inc s t → t = s)
theorem mem_mostL {L : List Nat} {s : Nat} : s ∈ mostL L ↔ s ∈ L ∧ ∀ t, t ∈ L → Inc s t → t = s := by
  unfold mostL; rw [List.mem_filter, decide_eq_true_eq]
theorem most_in {m : Nat} {L : List Nat} (hL : Fam m L) : ∀ (d s : Nat), m - cnt m s ≤ d → s ∈ L → ∃ t, t ∈ mostL L ∧ Inc s t := by
  intro d
  induction d with
  | zero =>
    intro s hd hs
    refine ⟨s, mem_mostL.2 ⟨hs, fun t ht hi => ?_⟩, Inc.refl s⟩
    have := cnt_le m t
    exact (inc_eq_of_cnt hi (hL.lt t ht) (by omega)).symm
  | succ d ih =>
    intro s hd hs
    rcases Classical.em (∃ t, t ∈ L ∧ Inc s t ∧ t ≠ s) with ⟨t, h1, h2, h3⟩ | q
    · have hlt : cnt m s < cnt m t := by
        rcases Nat.lt_or_ge (cnt m s) (cnt m t) with c | c
        · exact c
        · exact absurd (inc_eq_of_cnt h2 (hL.lt t h1) c).symm h3
      have := cnt_le m t
      obtain ⟨u, u1, u2⟩ := ih t (by omega) h1
      exact ⟨u, u1, h2.trans u2⟩
    · refine ⟨s, mem_mostL.2 ⟨hs, fun t ht hi => ?_⟩, Inc.refl s⟩
      rcases Nat.decEq t s with e | e
      · exact absurd ⟨t, ht, hi, e⟩ q
      · exact e
theorem most_cx {m : Nat} {L : List Nat} (hL : Fam m L) (hne : L ≠ []) : Cx m (mostL L) := by
  refine ⟨fam_sub hL _, fun e => ?_, fun s hs t ht hi => ((mem_mostL.1 hs).2 t (mem_mostL.1 ht).1 hi).symm⟩
  cases hq : L with
  | nil => exact hne hq
  | cons a r =>
    obtain ⟨t, h1, _⟩ := most_in hL _ a (Nat.le_refl _) (by rw [hq]; simp)
    rw [e] at h1; simp at h1
theorem most_face {m : Nat} {L : List Nat} (hL : Fam m L) {s : Nat} : Face (mostL L) s ↔ ∃ t, t ∈ L ∧ Inc s t := by
  constructor
  · rintro ⟨f, h1, h2⟩; exact ⟨f, (mem_mostL.1 h1).1, h2⟩
  · rintro ⟨t, h1, h2⟩
    obtain ⟨u, u1, u2⟩ := most_in hL _ t (Nat.le_refl _) h1
    exact ⟨u, u1, h2.trans u2⟩

/-! ### the dual -/
end Go.SH
