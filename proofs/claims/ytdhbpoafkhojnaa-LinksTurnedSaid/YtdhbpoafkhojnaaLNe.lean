/-
  Ways without a vertex together: as many as the least cut; the statement LinksTurned as a plain law. Conditions: Go's range of int.
-/
import Derived.Test.YtdhbpoafkhojnaaLNc
import Derived.Test.YtdhbpoafkhojnaaLNd
import Derived.Test.YtdhbpoafkhojnaaLKt
import Derived.Test.YtdhbpoafkhojnaaSkLinksTurned
set_option linter.unusedSimpArgs false
set_option linter.unusedVariables false
namespace Go.SH
open Go Go.AX

theorem right_spec (g : Int) (E : List (Int × Int)) (l : List Int) : Gets (links_right g E l) (fun e => e = 0 ↔ CG g E ∧ ∀ k, k < l.length → 0 ≤ l.getD k 0 ∧ l.getD k 0 < ((2 ^ g.toNat : Nat) : Int)) := by
  unfold links_right
  refine gBind (CheckGraph_spec g E) ?_
  rintro e ⟨h1, h2⟩
  refine gIte (fun q => gSome ⟨fun w => absurd w q, fun w => absurd (h2.2 w.1) q⟩) fun q => ?_
  have hg := h2.1 (by omega)
  have := hg.n1
  have := hg.n7
  obtain ⟨N, rfl⟩ := Int.eq_ofNat_of_zero_le (show 0 ≤ g by omega)
  simp only [toNat_nat, shl_nat']
  refine gBind (R := fun z : Unit ⊕ Int => match z with | .inl _ => ∀ k, k < l.length → 0 ≤ l.getD k 0 ∧ l.getD k 0 < ((2 ^ N : Nat) : Int) | .inr r => r = 1 ∧ ¬ ∀ k, k < l.length → 0 ≤ l.getD k 0 ∧ l.getD k 0 < ((2 ^ N : Nat) : Int))
    (gFor l.length (fun k v => v = (k : Int) ∧ ∀ j, j < k → 0 ≤ l.getD j 0 ∧ l.getD j 0 < ((2 ^ N : Nat) : Int)) (Nat.zero_le _) ⟨rfl, none_all⟩ ?_) ?_
  · rintro k _ hk ⟨rfl, hb⟩
    simp only [toNat_nat]
    refine gIte (fun h3 => gChk (by omega) (gChk (fun _ => by omega) (gIte (fun h4 => gSome ⟨rfl, fun w => ?_⟩) fun h4 => gSome ⟨by omega, by simp, step_all hb (by omega)⟩))) fun h3 => gSome fun j hj => hb j (by omega)
    have := w k (by omega)
    omega
  · rintro (u | r) hz
    · exact gSome ⟨fun _ => ⟨hg, hz⟩, fun _ => rfl⟩
    · exact gSome ⟨fun w => absurd (hz.1.symm.trans w) (by decide), fun w => absurd w.2 hz.2⟩
theorem out_first {m : Nat} {p : Nat → Nat → Int} (hm : 0 < m) (h : ∀ i j, p i j ≤ 1) : outS m p (fun i => decide (i = 0)) ≤ m := by
  unfold outS
  rw [sm_one (k := 0) hm fun i _ hne => if_neg (by simpa using hne), if_pos (by simp)]
  have c : ∀ k, sm k (fun _ => (1 : Int)) = k := fun k => by
    induction k with
    | zero => rfl
    | succ k ih => simp only [sm]; rw [ih]; omega
  rw [← c m]
  refine sm_le fun j _ => ?_
  split
  · omega
  · exact h 0 j
theorem ways_spec {N : Nat} {E : List (Int × Int)} (h : CG N E) (s t : Nat) : Gets (links_ways N E (s : Int) (t : Int)) (fun n => Least (2 + 2 * N) (lay E s t N E.length) n ∧ 0 ≤ n ∧ n ≤ 16) := by
  have hn7 := h.n7
  have hbd := lay_bd E s t N E.length
  have hf := out_first (m := 2 + 2 * N) (p := lay E s t N E.length) (by omega) fun i j => (hbd i j).2
  unfold links_ways
  refine gBind (laid_spec h s t) ?_
  rintro X0 ⟨hX0, hX0'⟩
  refine gBind (R := fun n => Least (2 + 2 * N) (lay E s t N E.length) n ∧ 0 ≤ n ∧ n ≤ 16) (gFor (2 + 2 * N) (fun k (x : List (List Int) × Int) => x.2 = (k : Int) ∧ Sq (2 + 2 * N) x.1 ∧ Flow (2 + 2 * N) (lay E s t N E.length) (en x.1) k) (Nat.zero_le _)
    ⟨rfl, hX0, by
      have e : en X0 = lay E s t N E.length := by funext i j; exact hX0' i j
      show Flow _ _ (en X0) _
      rw [e]; exact Flow.start fun i _ j _ => (hbd i j).1⟩ ?_) fun n hn => gSome hn
  rintro k ⟨X, _⟩ hk ⟨rfl, hX, hF⟩
  dsimp only at hX hF ⊢
  have hsy : ∀ i, i < 2 + 2 * N → ∀ j, j < 2 + 2 * N → en X i j + en X j i ≤ 2 := fun i hi j hj => by
    have := hF.sym i hi j hj
    have := (hbd i j).2
    have := (hbd j i).2
    omega
  refine gBind (more_spec hX (by omega) (by omega) hF.nn hsy) ?_
  rintro ⟨b, Z⟩ (⟨h1, h2, S, s0, s1, s2⟩ | ⟨h1, h2, h3, h4, h5⟩)
  · dsimp only at h1 h2 ⊢
    subst h1 h2
    refine gChk rfl (gIte (fun q => absurd q (by decide)) fun _ => gSome ⟨hF.least (by omega) s0 s1 s2, by omega, by omega⟩)
  · dsimp only at h1 h2 h3 h4 h5 ⊢
    subst h1
    have hF' : Flow (2 + 2 * N) (lay E s t N E.length) (en Z) ((k : Int) + 1) := ⟨h3, fun i hi j hj => (h4 i hi j hj).trans (hF.sym i hi j hj), fun i hi => by
      rw [h5 i hi, hF.row i hi]
      split <;> split <;> omega⟩
    have hle := hF'.le (by omega) (fun i => decide (i = 0)) (by simp) (by simp)
    refine gChk (by rw [h2.len, hX.len]) (gIte (fun _ => gChk ⟨by omega, by omega⟩ (gSome ⟨by omega, by simp, h2, by
      have e : ((k + 1 : Nat) : Int) = (k : Int) + 1 := by omega
      show Flow _ _ (en Z) _
      rw [e]; exact hF'⟩)) fun q => absurd rfl q)
theorem Most_ok {N : Nat} {E : List (Int × Int)} (h : CG N E) {s t : Nat} (hs : s < 2 ^ N) (ht : t < 2 ^ N) : Gets (links_Most N E (s : Int) (t : Int)) (fun r => r.2 = 0 ∧ Least (2 + 2 * N) (lay E s t N E.length) r.1 ∧ 0 ≤ r.1 ∧ r.1 ≤ 16) := by
  unfold links_Most
  refine gBind (right_spec N E [(s : Int), (t : Int)]) fun e he => gIte (fun q => absurd (he.2 ⟨h, fun k hk => ?_⟩) q) fun _ => gBind (ways_spec h s t) fun n hn => gSome ⟨rfl, hn⟩
  rw [toNat_nat]
  rcases (show k = 0 ∨ k = 1 by simp at hk; omega) with rfl | rfl
  · show 0 ≤ (s : Int) ∧ (s : Int) < _
    omega
  · show 0 ≤ (t : Int) ∧ (t : Int) < _
    omega
theorem Most_bad {g : Int} {E : List (Int × Int)} {a b : Int} (h : ¬ ∃ N s t : Nat, g = N ∧ a = s ∧ b = t ∧ CG (N : Int) E ∧ s < 2 ^ N ∧ t < 2 ^ N) : Gets (links_Most g E a b) (fun r => r.2 ≠ 0 ∧ r.1 = 0) := by
  unfold links_Most
  refine gBind (right_spec g E [a, b]) fun e he => gIte (fun q => gSome ⟨q, rfl⟩) fun q => ?_
  exfalso
  obtain ⟨hg, hb⟩ := he.1 (by omega)
  have := hg.n1
  obtain ⟨N, rfl⟩ := Int.eq_ofNat_of_zero_le (show 0 ≤ g by omega)
  have h0 : 0 ≤ a ∧ a < ((2 ^ N : Nat) : Int) := hb 0 (by simp)
  have h1 : 0 ≤ b ∧ b < ((2 ^ N : Nat) : Int) := hb 1 (by simp)
  obtain ⟨s, rfl⟩ := Int.eq_ofNat_of_zero_le h0.1
  obtain ⟨t, rfl⟩ := Int.eq_ofNat_of_zero_le h1.1
  exact h ⟨N, s, t, rfl, rfl, rfl, hg, by omega, by omega⟩
theorem reached1 (v : Int) : Gets (links_reached 1 [] 1 v) (fun y => y = iandnot 1 v) := by
  unfold links_reached
  refine gBind (R := fun y => y = iandnot 1 v) (gFor 1 (fun k (x : Int × Int) => x.2 = (k : Int) ∧ x.1 = iandnot 1 v) (Nat.zero_le _) ⟨rfl, rfl⟩ ?_) fun y hy => gSome hy
  rintro k ⟨_, _⟩ hk ⟨rfl, rfl⟩
  dsimp only
  refine gIte (fun h1 => ?_) fun h1 => gSome rfl
  refine gBind (R := fun y => y = iandnot 1 v) (gFor 0 (fun k (x : Int × Int) => x.2 = 0 ∧ x.1 = iandnot 1 v) (Nat.zero_le _) ⟨rfl, rfl⟩ ?_) ?_
  · rintro j ⟨_, _⟩ hj ⟨rfl, rfl⟩
    exact gIte (fun q => absurd q (by simp)) fun _ => gSome rfl
  · rintro _ rfl
    exact gSome ⟨by omega, by simp, rfl⟩
theorem links_size_nat {a : Nat} (h : a < 256) : links_size (a : Int) = some ((size a : Nat) : Int) := by
  unfold links_size bits_OnesCount
  rw [chk_pos (by omega)]
  show some (oc _) = _
  rw [oc_size h]
theorem cut1 : Gets (links_Cut 1 [] 1 1) (fun y => y = (1, 0)) := by
  unfold links_Cut
  have hg : CG 1 [] := ⟨by decide, by decide, by decide, fun k hk => by simp at hk⟩
  refine gBind (right_spec 1 [] [1, 1]) fun e he => gIte (fun q => absurd (he.2 ⟨hg, fun k hk => ?_⟩) q) fun _ => ?_
  · rcases (show k = 0 ∨ k = 1 by simp at hk; omega) with rfl | rfl <;> decide
  refine gChk (by decide) (gChk (by decide) ?_)
  refine gBind (R := fun b => b = 1) (gFor 2 (fun k (x : Int × Int × Int) => x = if k < 2 then (0, 2, (k : Int)) else (1, 1, 2)) (Nat.zero_le _) rfl ?_) ?_
  · rintro k x hk rfl
    rcases (show k = 0 ∨ k = 1 ∨ k = 2 by omega) with rfl | rfl | rfl
    · refine gIte (fun _ => ?_) fun q => absurd (by decide) q
      have e0 : links_size ((if 0 < 2 then ((0 : Int), (2 : Int), ((0 : Nat) : Int)) else (1, 1, 2)).2.2) = some ((size 0 : Nat) : Int) := links_size_nat (a := 0) (by decide)
      refine gBindE e0 ?_
      refine gBind (R := fun y => y = iandnot 1 0) ?_ ?_
      · rw [if_pos (by decide)]; exact reached1 _
      · rintro _ rfl
        exact gIte (fun q => absurd q.2 (by decide)) fun _ => gSome ⟨by decide, rfl⟩
    · refine gIte (fun _ => ?_) fun q => absurd (by decide) q
      have e0 : links_size ((if 1 < 2 then ((0 : Int), (2 : Int), ((1 : Nat) : Int)) else (1, 1, 2)).2.2) = some ((size 1 : Nat) : Int) := links_size_nat (a := 1) (by decide)
      refine gBindE e0 ?_
      refine gBind (R := fun y => y = iandnot 1 1) ?_ ?_
      · rw [if_pos (by decide)]; exact reached1 _
      · rintro _ rfl
        refine gIte (fun _ => ?_) fun q => absurd (by decide) q
        refine gBindE e0 (gSome ⟨by decide, rfl⟩)
    · exact gIte (fun q => absurd q (by decide)) fun _ => gSome rfl
  · rintro _ rfl
    exact gSome rfl
theorem rotakeep_LinksTurned_law (g : Int) (E : List (Int × Int)) (a b v : Int) (hv : -9223372036854775808 ≤ v ∧ v ≤ 9223372036854775807) : rotakeep_LinksTurned g E a b v = some true := by
  refine Gets.eq ?_
  unfold rotakeep_LinksTurned
  refine gBind cut1 ?_
  rintro _ rfl
  refine gIte (fun q => absurd q (by decide)) fun _ => ?_
  by_cases hok : ∃ N s t : Nat, g = N ∧ a = s ∧ b = t ∧ CG (N : Int) E ∧ s < 2 ^ N ∧ t < 2 ^ N
  case neg => exact gBind (Most_bad hok) fun y hy => gIte (fun _ => gSome (by simp [hy.2])) fun q => absurd hy.1 q
  obtain ⟨N, s, t, rfl, rfl, rfl, hg, hs, ht⟩ := hok
  have hn1 := hg.n1
  have hn7 := hg.n7
  have he8 := hg.e8
  refine gBind (Most_ok hg hs ht) ?_
  rintro ⟨n, _⟩ ⟨rfl, hL, hn0, hn16⟩
  dsimp only at hL hn0 hn16 ⊢
  refine gIte (fun q => absurd rfl q) fun _ => ?_
  refine gBind (R := fun E' => E' = E.map fun e => (e.2, e.1)) (gFor E.length (fun k (x : List (Int × Int) × Int) => x.2 = (k : Int) ∧ x.1 = (E.take k).map fun e => (e.2, e.1)) (Nat.zero_le _) ⟨rfl, rfl⟩ ?_) ?_
  · rintro k ⟨_, _⟩ hk ⟨rfl, rfl⟩
    simp only [toNat_nat]
    refine gIte (fun h1 => ?_) fun h1 => gSome (by rw [List.take_of_length_le (by omega)])
    have hkE : k < E.length := by omega
    have e : (E.take (k + 1)).map (fun e : Int × Int => (e.2, e.1)) = (E.take k).map (fun e => (e.2, e.1)) ++ [((E.getD k (0, 0)).2, (E.getD k (0, 0)).1)] := by
      rw [List.take_succ_eq_append_getElem hkE, List.map_append, List.getD_eq_getElem?_getD, List.getElem?_eq_getElem hkE]; rfl
    exact gChk ⟨by omega, by omega⟩ (gChk (by simp; omega) (gSome ⟨hkE, by simp, e.symm⟩))
  rintro E' hE'
  have hl : E'.length = E.length := by rw [hE']; simp
  have hgd : ∀ k, k < E.length → E'.getD k (0, 0) = ((E.getD k (0, 0)).2, (E.getD k (0, 0)).1) := fun k hk => by
    rw [hE', List.getD_eq_getElem?_getD, List.getElem?_map, List.getD_eq_getElem?_getD, List.getElem?_eq_getElem hk]; rfl
  have hg' : CG (N : Int) E' := ⟨hn1, hn7, by omega, fun k hk => by
    rw [hgd k (by omega)]
    have := hg.bd k (by omega)
    exact ⟨this.2.2.1, this.2.2.2, this.1, this.2.1⟩⟩
  have hab : ∀ k, k < E.length → hA E' k = hB E k ∧ hB E' k = hA E k := fun k hk => by
    unfold hA hB; rw [hgd k hk]; exact ⟨rfl, rfl⟩
  refine gBind (Most_ok hg' ht hs) ?_
  rintro ⟨n', _⟩ ⟨rfl, hL', hn0', hn16'⟩
  dsimp only at hL' hn0' hn16' ⊢
  refine gBind (Pick_spec hv (show 1 ≤ N by omega)) ?_
  rintro _ ⟨x, rfl, hx⟩
  refine gChk ⟨by omega, by omega⟩ ?_
  have hsx : s ||| 2 ^ x < 2 ^ N := or_lt hs (Nat.pow_lt_pow_right (by omega) hx)
  simp only [toNat_nat, shl_nat', or_nat]
  refine gBind (Most_ok hg hsx ht) ?_
  rintro ⟨k, _⟩ ⟨rfl, hLk, hk0, hk16⟩
  dsimp only at hLk hk0 hk16 ⊢
  have e2 : 2 + 2 * N = 2 * (N + 1) := by omega
  have hp0 : ph 0 = 1 := by decide
  have hp1 : ph 1 = 0 := by decide
  have enn : n' = n := by
    rw [e2] at hL hL'
    refine hL'.eq hL (fun S s0 s1 => ⟨fun x => !(S (ph x)), by simp [hp0, s1], by simp [hp1, s0], Int.le_of_eq (out_turn (fun i _ j _ => ?_) S)⟩) fun S s0 s1 => ⟨fun x => !(S (ph x)), by simp [hp0, s1], by simp [hp1, s0], Int.le_of_eq (out_turn (fun i _ j _ => lay_turn hl hab s t N i j) S)⟩
    have := lay_turn hl hab s t N (ph j) (ph i)
    rw [ph_ph, ph_ph] at this
    exact this.symm
  have k1 : n ≤ k := by
    obtain ⟨_, S, s0, s1, s2⟩ := hLk
    have := hL.1 S s0 s1
    have := out_mono (m := 2 + 2 * N) (fun i j => (lay_add E s t x N E.length i j).1) S
    omega
  have k2 : k ≤ n + 1 := by
    obtain ⟨_, S, s0, s1, s2⟩ := hL
    have := hLk.1 S s0 s1
    have := out_add (m := 2 + 2 * N) (y := 2 + 2 * x) (by omega) (by omega) (fun i j => (lay_add E s t x N E.length i j).2) S
    omega
  refine gChk (fun _ => ⟨by omega, by omega⟩) (gSome ?_)
  rw [enn]
  simp
  omega
end Go.SH
