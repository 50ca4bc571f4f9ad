/-
  Cuts of a graph are submodular; the statement SubLeasts as a plain law. Conditions: none.
-/
import Derived.Test.YtdfclknhgpkghaaLY
import Derived.Test.YtdfclknhgpkghaaLR
import Derived.Test.YtdfclknhgpkghaaELe
import Derived.Test.YtdfclknhgpkghaaSkSubLeasts
set_option linter.unusedSimpArgs false
set_option linter.unusedVariables false
namespace Go.SH
open Go Go.AX

theorem least_one : sub_Least 1 [0, (-3)] = some (-3, 1, 1, 0) := E_sub_Least _ _ _ (by kernel_rfl)

/-- A graph as the program takes it. -/
structure Gra (N : Nat) (E : List (Int × Int)) : Prop where
  n1 : 1 ≤ N
  n7 : N ≤ 7
  e8 : E.length ≤ 8
  ends : ∀ k, k < E.length → 0 ≤ (E.getD k (0, 0)).1 ∧ 0 ≤ (E.getD k (0, 0)).2 ∧ (E.getD k (0, 0)).1 < N ∧ (E.getD k (0, 0)).2 < N
theorem CheckGraph_spec (n : Int) (E : List (Int × Int)) : Gets (kinds_CheckGraph n E) (fun r => r = 0 → ∃ N : Nat, n = N ∧ Gra N E) := by
  unfold kinds_CheckGraph
  refine gIte (fun _ => gSome (by simp)) fun h => ?_
  obtain ⟨N, rfl⟩ := Int.eq_ofNat_of_zero_le (show 0 ≤ n by omega)
  refine gBind (R := fun z => match z with | .inl _ => ∀ k, k < E.length → 0 ≤ (E.getD k (0, 0)).1 ∧ 0 ≤ (E.getD k (0, 0)).2 ∧ (E.getD k (0, 0)).1 < N ∧ (E.getD k (0, 0)).2 < N | .inr r => r ≠ 0)
    (gFor E.length (fun k v => v = (k : Int) ∧ ∀ j, j < k → 0 ≤ (E.getD j (0, 0)).1 ∧ 0 ≤ (E.getD j (0, 0)).2 ∧ (E.getD j (0, 0)).1 < N ∧ (E.getD j (0, 0)).2 < N) (Nat.zero_le _) ⟨rfl, none_all⟩ ?_) ?_
  · rintro k _ hk ⟨rfl, hb⟩
    simp only [toNat_nat]
    refine gIte (fun h1 => gChk (by omega) (gIte (fun _ => gSome (show (1 : Int) ≠ 0 by omega)) fun h2 => gSome ⟨by omega, by simp, step_all hb (by omega)⟩)) fun h1 => gSome fun j hj => hb j (by omega)
  · rintro (u | rr) hz
    · exact gSome fun _ => ⟨N, rfl, by omega, by omega, by omega, hz⟩
    · exact gSome fun e => absurd e hz

theorem bitn (s a : Nat) : iand ((s : Int) / ((2 ^ a : Nat) : Int)) 1 = if s.testBit a then 1 else 0 := by
  have := bit_nat s a
  rwa [toNat_nat, shl_nat'] at this
/-- Edge k leaves the set: its number. -/
def leave (E : List (Int × Int)) (c : List Int) (s k : Nat) : Int := if (s.testBit (E.getD k (0, 0)).1.toNat && !s.testBit (E.getD k (0, 0)).2.toNat) = true then c.getD k 0 else 0
theorem cut_term (sA sB iA iB kA kB : Bool) (c : Int) (hc : 0 ≤ c) (h1 : (iA && kA) = false) (h2 : (iB && kB) = false) :
    (if ((sA || iA || kA) && !(sB || iB || kB)) = true then c else 0) + (if (sA && !sB) = true then c else 0) ≤ (if ((sA || iA) && !(sB || iB)) = true then c else 0) + (if ((sA || kA) && !(sB || kB)) = true then c else 0) := by
  cases sA <;> cases sB <;> cases iA <;> cases iB <;> cases kA <;> cases kB <;> simp_all
def cutL (N : Nat) (E : List (Int × Int)) (c : List Int) : List Int := (List.range (2 ^ N)).map fun s => sumN E.length (leave E c s)
theorem cutL_get (N : Nat) (E : List (Int × Int)) (c : List Int) {s : Nat} (hs : s < 2 ^ N) : (cutL N E c).getD s 0 = sumN E.length (leave E c s) := by
  unfold cutL
  rw [List.getD_eq_getElem?_getD, List.getElem?_map, List.getElem?_range hs]; rfl
theorem sumN_bd {n : Nat} {g : Nat → Int} (h : ∀ i, i < n → 0 ≤ g i ∧ g i ≤ 100) : 0 ≤ sumN n g ∧ sumN n g ≤ 100 * n := by
  induction n with
  | zero => simp [sumN]
  | succ n ih =>
    simp only [sumN]
    have := ih fun i hi => h i (by omega)
    have := h n (by omega)
    omega
theorem leave_bd {E : List (Int × Int)} {c : List Int} (hc : ∀ k, k < E.length → 0 ≤ c.getD k 0 ∧ c.getD k 0 ≤ 100) (s : Nat) : ∀ k, k < E.length → 0 ≤ leave E c s k ∧ leave E c s k ≤ 100 := fun k hk => by
  have := hc k hk
  unfold leave
  split <;> omega
theorem Gra.subm {N : Nat} {E : List (Int × Int)} {c : List Int} (hG : Gra N E) (hc : ∀ k, k < E.length → 0 ≤ c.getD k 0 ∧ c.getD k 0 ≤ 100) : Subm N (cutL N E c) := by
  have h7 := hG.n7
  have he := hG.e8
  have hpos : 0 < 2 ^ N := Nat.pow_pos (by omega)
  refine ⟨⟨by omega, by simp [cutL], fun k hk => ?_, ?_⟩, fun s hs i hi k hk hd => ?_⟩
  · rw [cutL_get N E c hk]
    have := sumN_bd (leave_bd hc k)
    omega
  · rw [cutL_get N E c hpos]
    rw [sumN_congr (h := fun _ => 0) fun k hk => by unfold leave; simp, sumN_zero]
  · have hk' : k < N := by omega
    rw [cutL_get N E c (or_lt (or_lt hs (pow_lt hi)) (pow_lt hk')), cutL_get N E c hs, cutL_get N E c (or_lt hs (pow_lt hi)), cutL_get N E c (or_lt hs (pow_lt hk')), ← sumN_add, ← sumN_add]
    refine sumN_le fun e he => ?_
    unfold leave
    simp only [Nat.testBit_or, testBit_pow]
    refine cut_term _ _ _ _ _ _ _ (hc e he).1 ?_ ?_
    · rw [Bool.and_eq_false_iff]
      by_cases q : i = (E.getD e (0, 0)).1.toNat
      · right; exact decide_eq_false (by omega)
      · left; exact decide_eq_false q
    · rw [Bool.and_eq_false_iff]
      by_cases q : i = (E.getD e (0, 0)).2.toNat
      · right; exact decide_eq_false (by omega)
      · left; exact decide_eq_false q

/-- Numbers of sets below k are there, x at k, nothing behind. -/
structure CB (N : Nat) (E : List (Int × Int)) (c : List Int) (k : Nat) (x : Int) (out : List Int) : Prop where
  len : out.length = 2 ^ N
  lo : ∀ i, i < k → out.getD i 0 = sumN E.length (leave E c i)
  at_ : k < 2 ^ N → out.getD k 0 = x
  hi : ∀ i, k < i → i < 2 ^ N → out.getD i 0 = 0

theorem Cuts_spec (n : Int) (E : List (Int × Int)) (c : List Int) : Gets (sub_Cuts n E c) (fun r => (r.2 ≠ 0 ∧ r.1 = []) ∨ (r.2 = 0 ∧ ∃ N : Nat, n = N ∧ Subm N r.1)) := by
  unfold sub_Cuts
  refine gBind (CheckGraph_spec n E) fun y hy => gIte (fun q => gSome (.inl ⟨q, rfl⟩)) fun q => ?_
  obtain ⟨N, rfl, hG⟩ := hy (by simpa using q)
  refine gIte (fun _ => gSome (.inl ⟨by simp, rfl⟩)) fun q2 => ?_
  have hl : c.length = E.length := by omega
  have h7 := hG.n7
  have h8 := hG.e8
  have hpos : 0 < 2 ^ N := Nat.pow_pos (by omega)
  have h256 : 2 ^ N ≤ 256 := pow_le8 (by omega)
  refine gBind (R := fun z => match z with | .inl _ => ∀ k, k < E.length → 0 ≤ c.getD k 0 ∧ c.getD k 0 ≤ 100 | .inr r => r.2 ≠ 0 ∧ r.1 = [])
    (gFor c.length (fun k v => v = (k : Int) ∧ ∀ j, j < k → 0 ≤ c.getD j 0 ∧ c.getD j 0 ≤ 100) (Nat.zero_le _) ⟨rfl, none_all⟩ ?_) ?_
  · rintro k _ hk ⟨rfl, hb⟩
    simp only [toNat_nat]
    refine gIte (fun h1 => gChk (by omega) (gIte (fun _ => gSome ⟨by simp, rfl⟩) fun h2 => gSome ⟨by omega, by simp, step_all hb (by omega)⟩)) fun h1 => gSome fun j hj => hb j (by omega)
  · rintro (u | rr) hz
    rotate_left
    · exact gSome (.inl hz)
    have hc : ∀ k, k < E.length → 0 ≤ c.getD k 0 ∧ c.getD k 0 ≤ 100 := hz
    simp only [toNat_nat, shl_nat', List.length_replicate]
    have get0 : ∀ i, (List.replicate (2 ^ N) (0 : Int)).getD i 0 = 0 := fun i => by
      rw [List.getD_eq_getElem?_getD, List.getElem?_replicate]; split <;> rfl
    refine gChk (by omega) (gBind (R := fun o => o = cutL N E c) (gFor (2 ^ N) (fun k (x : List Int × Int) => x.2 = (k : Int) ∧ CB N E c k 0 x.1) (Nat.zero_le _) ⟨rfl, ⟨by simp, fun i hi => by omega, fun _ => get0 _, fun i _ _ => get0 _⟩⟩ ?_) fun o ho => gSome (.inr ⟨rfl, N, rfl, by rw [ho]; exact hG.subm hc⟩))
    rintro k ⟨out, _⟩ hk ⟨rfl, hcb⟩
    simp only at hcb ⊢
    refine gIte (fun h1 => ?_) fun h1 => gSome ?_
    · have hk' : k < 2 ^ N := by omega
      refine gBind (R := fun o => CB N E c k (sumN E.length (leave E c k)) o) (gFor E.length (fun j (x : List Int × Int) => x.2 = (j : Int) ∧ CB N E c k (sumN j (leave E c k)) x.1) (Nat.zero_le _) ⟨rfl, hcb⟩ ?_) fun o ho => gSome ⟨hk', by simp, ⟨ho.len, fun i hi => ?_, fun hk1 => ho.hi _ (by omega) hk1, fun i hi hn => ho.hi i (by omega) hn⟩⟩
      · rintro j ⟨o2, _⟩ hj ⟨rfl, hm2⟩
        simp only at hm2 ⊢
        have ho2 := hm2.len
        refine gIte (fun h3 => gChk (by omega) ?_) fun h3 => gSome (by have e : j = E.length := (by omega); subst e; exact hm2)
        have hj' : j < E.length := by omega
        have hends := hG.ends j hj'
        have hcj := hc j hj'
        have hpart := sumN_bd (n := j) (g := leave E c k) fun i hi => leave_bd hc k i (by omega)
        have e1 := hm2.at_ hk'
        simp only [toNat_nat, bitn]
        refine gChk ⟨by omega, fun _ => by omega⟩ (gIte (fun q => gChk (by omega) (gSome ⟨hj', by simp, ?_⟩)) fun q => gSome ⟨hj', by simp, ?_⟩)
        · have hlv : leave E c k j = c.getD j 0 := by
            unfold leave
            refine if_pos ?_
            rw [Bool.and_eq_true, Bool.not_eq_true']
            refine ⟨?_, ?_⟩
            · have q1 := q.1
              split at q1
              · assumption
              · omega
            · have q2 := q.2
              split at q2
              · omega
              · exact bool_ne ‹_›
          show CB N E c k _ (o2.set k _)
          have hk2 : k < o2.length := by omega
          rw [e1]
          simp only [sumN, hlv]
          refine ⟨by simp [ho2], fun i hi => ?_, fun _ => ?_, fun i hi hn => ?_⟩
          · rw [set_getD _ hk2, if_neg (by omega)]; exact hm2.lo i hi
          · rw [set_getD _ hk2, if_pos rfl]
          · rw [set_getD _ hk2, if_neg (by omega)]; exact hm2.hi i hi hn
        · have hlv : leave E c k j = 0 := by
            unfold leave
            refine if_neg fun h => q ?_
            rw [Bool.and_eq_true, Bool.not_eq_true'] at h
            rw [if_pos h.1, if_neg (by rw [h.2]; simp)]
            exact ⟨rfl, rfl⟩
          simp only [sumN, hlv, Int.add_zero]
          exact hm2
      · rcases Nat.lt_succ_iff_lt_or_eq.1 hi with e | rfl
        · exact ho.lo i e
        · exact ho.at_ hk'
    · have hkl : k = 2 ^ N := by omega
      subst hkl
      refine list_ext_getD (by rw [hcb.len]; simp [cutL]) fun i hi => ?_
      rw [hcb.len] at hi
      rw [hcb.lo i hi, cutL_get N E c hi]

theorem rotakeep_SubLeasts_law (n : Int) (f : List Int) (gN : Int) (gE : List (Int × Int)) (c : List Int) : rotakeep_SubLeasts n f gN gE c = some true := by
  refine Gets.eq ?_
  unfold rotakeep_SubLeasts
  refine gBindE least_one (gIte (fun q => absurd q (by simp)) fun _ => ?_)
  -- behind the first half
  have rest : Gets ((sub_Induced n f).bind fun y4 =>
      (if y4.2.2 = 0 then axioms_Check y4.1 y4.2.1 else some 0).bind fun y5 =>
      if ((y4.2.2 = 0 ∧ y5 ≠ 0) ∨ (y4.2.2 ≠ 0 ∧ y4.1 ≠ 0)) then
      some false
     else
      (sub_Cuts gN gE c).bind fun y6 =>
      if y6.2 ≠ 0 then
      some (decide ((y6.1.length : Int) = 0))
     else
      (sub_Check gN y6.1).bind fun y7 =>
      some (decide (y7 = 0))) (fun b => b = true) := by
    refine gBind (sub_Induced_spec n f) fun y4 hy4 => ?_
    have tail : Gets ((sub_Cuts gN gE c).bind fun y6 =>
        if y6.2 ≠ 0 then
        some (decide ((y6.1.length : Int) = 0))
       else
        (sub_Check gN y6.1).bind fun y7 =>
        some (decide (y7 = 0))) (fun b => b = true) := by
      refine gBind (Cuts_spec gN gE c) fun y6 hy6 => gIte (fun q => ?_) fun q => ?_
      · rcases hy6 with ⟨_, e⟩ | ⟨e, _⟩
        · rw [e]; exact gSome (by simp)
        · exact absurd e q
      · rcases hy6 with ⟨e, _⟩ | ⟨_, N, rfl, hS⟩
        · exact absurd e q
        · rw [hS.check]; exact gSome (by simp)
    rcases hy4 with ⟨h0, m, B, e1, e2, hM⟩ | ⟨h0, e1⟩
    · rw [if_pos h0, e1, e2, hM.check]
      refine gIte (fun q => ?_) fun _ => tail
      exfalso
      rcases q with ⟨_, q⟩ | ⟨q, _⟩
      · exact q rfl
      · exact q h0
    · rw [if_neg h0]
      refine gIte (fun q => ?_) fun _ => tail
      exfalso
      rcases q with ⟨q, _⟩ | ⟨_, q⟩
      · exact h0 q
      · exact q e1
  obtain ⟨cc, hcc, hs⟩ := sub_Check_spec n f
  rcases hs with ⟨_, m, rfl, hf⟩ | ⟨_, hn⟩
  · refine gBind (sub_Least_spec m f hf) fun y1 hy1 => ?_
    obtain ⟨a, b, ea, eb, a1, b1, fa, fb, hab⟩ := hy1.lattice hf
    have hlen := hf.len
    have hne : f ≠ [] := by
      rintro rfl
      have : 0 < 2 ^ m := Nat.pow_pos (by omega)
      simp at hlen; omega
    refine gChk ⟨fun _ => by omega, fun _ => by omega⟩ ?_
    rw [ea, eb]
    simp only [toNat_nat, fa, fb, hy1.ok]
    obtain ⟨v, hv, ⟨k, k1, k2⟩, hv2⟩ := slices_Min_spec f hne
    have hvy : v = y1.1 := by
      obtain ⟨j, j1, j2⟩ := hy1.at_
      have := hv2 j (by omega)
      have := hy1.least k (by omega)
      omega
    subst hvy
    simp only [hv, rotaref_Within_nat, ne_eq, not_true_eq_false, or_self, not_false_eq_true, and_self, and_true, true_and, if_true, Option.bind_some, hab, decide_true]
    refine gIte (fun q => absurd q (by simp)) fun _ => rest
  · refine gBind (sub_Least_bad n f hn) fun y1 hy1 => ?_
    have h0 : ¬ y1.2.2.2 = 0 := by omega
    refine gChk ⟨fun h => absurd h h0, fun h => absurd h.1 h0⟩ ?_
    simp only [h0, false_and, if_false, Option.bind_some]
    exact rest
end Go.SH
