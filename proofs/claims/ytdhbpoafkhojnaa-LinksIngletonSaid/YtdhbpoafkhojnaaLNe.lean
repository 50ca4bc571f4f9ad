/-
  Ways without a vertex together: as many as the least cut. Conditions: a graph.
-/
import Derived.Test.YtdhbpoafkhojnaaLNd
set_option linter.unusedSimpArgs false
set_option linter.unusedVariables false
namespace Go.SH
open Go Go.AX

theorem right_spec (g : Int) (E : List (Int × Int)) (l : List Int) : Gets (links_right g E l) (fun e => e = 0 ↔ CG g E ∧ ∀ k, k < l.length → 0 ≤ l.getD k 0 ∧ l.getD k 0 < ((2 ^ g.toNat : Nat) : Int)) := by
  unfold links_right
  refine gBind (CheckGraph_spec g E) ?_
  rintro e ⟨h1, h2⟩
  refine gIte (fun q => gSome ⟨fun w => absurd w q, fun w => absurd (h2.2 w.1) q⟩) fun q => ?_
  have hg := h2.1 (by omega)
  have := hg.n1
  have := hg.n7
  obtain ⟨N, rfl⟩ := Int.eq_ofNat_of_zero_le (show 0 ≤ g by omega)
  simp only [toNat_nat, shl_nat']
  refine gBind (R := fun z : Unit ⊕ Int => match z with | .inl _ => ∀ k, k < l.length → 0 ≤ l.getD k 0 ∧ l.getD k 0 < ((2 ^ N : Nat) : Int) | .inr r => r = 1 ∧ ¬ ∀ k, k < l.length → 0 ≤ l.getD k 0 ∧ l.getD k 0 < ((2 ^ N : Nat) : Int))
    (gFor l.length (fun k v => v = (k : Int) ∧ ∀ j, j < k → 0 ≤ l.getD j 0 ∧ l.getD j 0 < ((2 ^ N : Nat) : Int)) (Nat.zero_le _) ⟨rfl, none_all⟩ ?_) ?_
  · rintro k _ hk ⟨rfl, hb⟩
    simp only [toNat_nat]
    refine gIte (fun h3 => gChk (by omega) (gChk (fun _ => by omega) (gIte (fun h4 => gSome ⟨rfl, fun w => ?_⟩) fun h4 => gSome ⟨by omega, by simp, step_all hb (by omega)⟩))) fun h3 => gSome fun j hj => hb j (by omega)
    have := w k (by omega)
    omega
  · rintro (u | r) hz
    · exact gSome ⟨fun _ => ⟨hg, hz⟩, fun _ => rfl⟩
    · exact gSome ⟨fun w => absurd (hz.1.symm.trans w) (by decide), fun w => absurd w.2 hz.2⟩
theorem out_first {m : Nat} {p : Nat → Nat → Int} (hm : 0 < m) (h : ∀ i j, p i j ≤ 1) : outS m p (fun i => decide (i = 0)) ≤ m := by
  unfold outS
  rw [sm_one (k := 0) hm fun i _ hne => if_neg (by simpa using hne), if_pos (by simp)]
  have c : ∀ k, sm k (fun _ => (1 : Int)) = k := fun k => by
    induction k with
    | zero => rfl
    | succ k ih => simp only [sm]; rw [ih]; omega
  rw [← c m]
  refine sm_le fun j _ => ?_
  split
  · omega
  · exact h 0 j
theorem ways_spec {N : Nat} {E : List (Int × Int)} (h : CG N E) (s t : Nat) : Gets (links_ways N E (s : Int) (t : Int)) (fun n => Least (2 + 2 * N) (lay E s t N E.length) n ∧ 0 ≤ n ∧ n ≤ 16) := by
  have hn7 := h.n7
  have hbd := lay_bd E s t N E.length
  have hf := out_first (m := 2 + 2 * N) (p := lay E s t N E.length) (by omega) fun i j => (hbd i j).2
  unfold links_ways
  refine gBind (laid_spec h s t) ?_
  rintro X0 ⟨hX0, hX0'⟩
  refine gBind (R := fun n => Least (2 + 2 * N) (lay E s t N E.length) n ∧ 0 ≤ n ∧ n ≤ 16) (gFor (2 + 2 * N) (fun k (x : List (List Int) × Int) => x.2 = (k : Int) ∧ Sq (2 + 2 * N) x.1 ∧ Flow (2 + 2 * N) (lay E s t N E.length) (en x.1) k) (Nat.zero_le _)
    ⟨rfl, hX0, by
      have e : en X0 = lay E s t N E.length := by funext i j; exact hX0' i j
      show Flow _ _ (en X0) _
      rw [e]; exact Flow.start fun i _ j _ => (hbd i j).1⟩ ?_) fun n hn => gSome hn
  rintro k ⟨X, _⟩ hk ⟨rfl, hX, hF⟩
  dsimp only at hX hF ⊢
  have hsy : ∀ i, i < 2 + 2 * N → ∀ j, j < 2 + 2 * N → en X i j + en X j i ≤ 2 := fun i hi j hj => by
    have := hF.sym i hi j hj
    have := (hbd i j).2
    have := (hbd j i).2
    omega
  refine gBind (more_spec hX (by omega) (by omega) hF.nn hsy) ?_
  rintro ⟨b, Z⟩ (⟨h1, h2, S, s0, s1, s2⟩ | ⟨h1, h2, h3, h4, h5⟩)
  · dsimp only at h1 h2 ⊢
    subst h1 h2
    refine gChk rfl (gIte (fun q => absurd q (by decide)) fun _ => gSome ⟨hF.least (by omega) s0 s1 s2, by omega, by omega⟩)
  · dsimp only at h1 h2 h3 h4 h5 ⊢
    subst h1
    have hF' : Flow (2 + 2 * N) (lay E s t N E.length) (en Z) ((k : Int) + 1) := ⟨h3, fun i hi j hj => (h4 i hi j hj).trans (hF.sym i hi j hj), fun i hi => by
      rw [h5 i hi, hF.row i hi]
      split <;> split <;> omega⟩
    have hle := hF'.le (by omega) (fun i => decide (i = 0)) (by simp) (by simp)
    refine gChk (by rw [h2.len, hX.len]) (gIte (fun _ => gChk ⟨by omega, by omega⟩ (gSome ⟨by omega, by simp, h2, by
      have e : ((k + 1 : Nat) : Int) = (k : Int) + 1 := by omega
      show Flow _ _ (en Z) _
      rw [e]; exact hF'⟩)) fun q => absurd rfl q)
theorem Most_ok {N : Nat} {E : List (Int × Int)} (h : CG N E) {s t : Nat} (hs : s < 2 ^ N) (ht : t < 2 ^ N) : Gets (links_Most N E (s : Int) (t : Int)) (fun r => r.2 = 0 ∧ Least (2 + 2 * N) (lay E s t N E.length) r.1 ∧ 0 ≤ r.1 ∧ r.1 ≤ 16) := by
  unfold links_Most
  refine gBind (right_spec N E [(s : Int), (t : Int)]) fun e he => gIte (fun q => absurd (he.2 ⟨h, fun k hk => ?_⟩) q) fun _ => gBind (ways_spec h s t) fun n hn => gSome ⟨rfl, hn⟩
  rw [toNat_nat]
  rcases (show k = 0 ∨ k = 1 by simp at hk; omega) with rfl | rfl
  · show 0 ≤ (s : Int) ∧ (s : Int) < _
    omega
  · show 0 ≤ (t : Int) ∧ (t : Int) < _
    omega
theorem Most_bad {g : Int} {E : List (Int × Int)} {a b : Int} (h : ¬ ∃ N s t : Nat, g = N ∧ a = s ∧ b = t ∧ CG (N : Int) E ∧ s < 2 ^ N ∧ t < 2 ^ N) : Gets (links_Most g E a b) (fun r => r.2 ≠ 0 ∧ r.1 = 0) := by
  unfold links_Most
  refine gBind (right_spec g E [a, b]) fun e he => gIte (fun q => gSome ⟨q, rfl⟩) fun q => ?_
  exfalso
  obtain ⟨hg, hb⟩ := he.1 (by omega)
  have := hg.n1
  obtain ⟨N, rfl⟩ := Int.eq_ofNat_of_zero_le (show 0 ≤ g by omega)
  have h0 : 0 ≤ a ∧ a < ((2 ^ N : Nat) : Int) := hb 0 (by simp)
  have h1 : 0 ≤ b ∧ b < ((2 ^ N : Nat) : Int) := hb 1 (by simp)
  obtain ⟨s, rfl⟩ := Int.eq_ofNat_of_zero_le h0.1
  obtain ⟨t, rfl⟩ := Int.eq_ofNat_of_zero_le h1.1
  exact h ⟨N, s, t, rfl, rfl, rfl, hg, by omega, by omega⟩
theorem links_size_nat {a : Nat} (h : a < 256) : links_size (a : Int) = some ((size a : Nat) : Int) := by
  unfold links_size bits_OnesCount
  rw [chk_pos (by omega)]
  show some (oc _) = _
  rw [oc_size h]
end Go.SH
