/-
  Parallel classes, and what is left when each has one element. Conditions: none.
-/
import Derived.Test.YtcjhpcbipcdhiaaLTb
set_option linter.unusedSimpArgs false
set_option linter.unusedVariables false
namespace Go.SH
open Go Go.AX

theorem sortP {m : Nat} (h8 : m ≤ 8) (N : List Nat) (hlt : ∀ s, s ∈ N → s < 2 ^ m) (hnd : N.Nodup) : ∃ K, sortL (cs N) = cs K ∧ Fam m K ∧ ∀ s, s ∈ K ↔ s ∈ N := by
  have hperm : (sortL (cs N)).Perm (cs N) := List.mergeSort_perm _ _
  have hso : (sortL (cs N)).Pairwise (· ≤ ·) := by
    have := List.pairwise_mergeSort (le := fun x y : Int => decide (x ≤ y)) (fun a b c h1 h2 => by simp only [decide_eq_true_eq] at *; omega) (fun a b => by simp only [Bool.or_eq_true, decide_eq_true_eq]; omega) (cs N)
    exact this.imp fun h => of_decide_eq_true h
  have hnd2 : (sortL (cs N)).Nodup := hperm.nodup_iff.2 (List.pairwise_map.2 (hnd.imp fun h e => h (Int.ofNat.inj e)))
  have hri : (sortL (cs N)).Pairwise (· < ·) := (hso.and hnd2).imp fun h => by have := h.1; have := h.2; omega
  have hmem : ∀ y, y ∈ sortL (cs N) ↔ y ∈ cs N := fun y => hperm.mem_iff
  generalize sortL (cs N) = Z at *
  have hcs : Z = cs (Z.map Int.toNat) := cs_of fun k hk => by
    have : Z.getD k 0 ∈ Z := by rw [List.getD_eq_getElem?_getD, List.getElem?_eq_getElem hk]; exact List.getElem_mem hk
    obtain ⟨a, _, e⟩ := List.mem_map.1 (show Z.getD k 0 ∈ N.map Nat.cast from (hmem _).1 this)
    omega
  have hK : ∀ s : Nat, s ∈ Z.map Int.toNat ↔ s ∈ N := fun s => by rw [← cs_mem, ← hcs, hmem, cs_mem]
  refine ⟨Z.map Int.toNat, hcs, ⟨h8, fun s hs => hlt s ((hK s).1 hs), fun i j hij hj => ?_⟩, hK⟩
  rw [List.pairwise_iff_getElem] at hri
  have hj' : j < Z.length := by simpa using hj
  have h1 := hri i j (by omega) hj' hij
  have g : ∀ k (hk : k < Z.length), ((Z.map Int.toNat).getD k 0 : Int) = Z[k] := fun k hk => by
    have := cs_get (Z.map Int.toNat) k
    rw [← hcs] at this
    rw [← this, List.getD_eq_getElem?_getD, List.getElem?_eq_getElem hk]; rfl
  have h2 := g i (by omega)
  have h3 := g j hj'
  omega
theorem Fam.nodupP {m : Nat} {L : List Nat} (h : Fam m L) : L.Nodup := by
  unfold List.Nodup
  rw [List.pairwise_iff_getElem]
  intro i j hi hj hij
  have := h.rise i j hij hj
  simp [List.getD_eq_getElem?_getD, List.getElem?_eq_getElem hi, List.getElem?_eq_getElem hj] at this
  omega


/-- Parallel, or both loops. -/
def Par (m : Nat) (B : List Nat) (e f : Nat) : Prop := rk m B (2 ^ f) = rk m B (2 ^ e) ∧ rk m B (2 ^ e ||| 2 ^ f) = rk m B (2 ^ e)
instance (m : Nat) (B : List Nat) (e f : Nat) : Decidable (Par m B e f) := by unfold Par; infer_instance
theorem Par.refl (m : Nat) (B : List Nat) (e : Nat) : Par m B e e := ⟨rfl, by rw [Nat.or_self]⟩
theorem Par.symm {m : Nat} {B : List Nat} {e f : Nat} (h : Par m B e f) : Par m B f e := ⟨h.1.symm, by rw [Nat.or_comm, h.2, h.1]⟩
def cls (m : Nat) (B : List Nat) (e : Nat) : Nat := mkset m fun f => decide (Par m B e f)
theorem cls_bit {m : Nat} {B : List Nat} {e f : Nat} : (cls m B e).testBit f = true ↔ f < m ∧ Par m B e f := by
  unfold cls; rw [mkset_bit]; simp
section
variable {m : Nat} {B : List Nat} (h : Mat m B)
include h
theorem Mat.par_trans {e f g : Nat} (h1 : Par m B e f) (h2 : Par m B f g) : Par m B e g := by
  refine ⟨h2.1.trans h1.1, ?_⟩
  have s := h.rk_sub (2 ^ e ||| 2 ^ f) (2 ^ f ||| 2 ^ g)
  have i1 : Inc (2 ^ f) ((2 ^ e ||| 2 ^ f) &&& (2 ^ f ||| 2 ^ g)) := inc_and (inc_or_r _ _) (inc_or_l _ _)
  have i2 : Inc (2 ^ e ||| 2 ^ g) ((2 ^ e ||| 2 ^ f) ||| (2 ^ f ||| 2 ^ g)) := inc_or ((inc_or_l _ _).trans (inc_or_l _ _)) ((inc_or_r _ _).trans (inc_or_r _ _))
  have r1 := h.rk_mono i1
  have r2 := h.rk_mono i2
  have r3 := h.rk_mono (inc_or_l (2 ^ e) (2 ^ g))
  have := h1.1; have := h1.2; have := h2.1; have := h2.2
  omega
theorem Mat.cls_eq {e f : Nat} (h1 : Par m B e f) : cls m B e = cls m B f := by
  unfold cls
  congr 1
  funext x
  rw [decide_eq_decide]
  exact ⟨fun q => h.par_trans h1.symm q, fun q => h.par_trans h1 q⟩
theorem Mat.cls_lt (e : Nat) : cls m B e < 2 ^ m := have _ := h; mkset_lt m _
theorem Mat.cls_rk {e : Nat} (he : e < m) : rk m B (cls m B e) = 0 ↔ rk m B (2 ^ e) = 0 := by
  constructor
  · intro q
    have := h.rk_mono (inc_pow (cls_bit.2 ⟨he, Par.refl m B e⟩))
    omega
  · intro q
    have := h.rk_all (s := 0) (t := cls m B e) (h.cls_lt e) fun i hi => by
      rw [Nat.zero_or, (cls_bit.1 hi).2.1, q, h.rk_zero]
    rw [Nat.zero_or, h.rk_zero] at this
    exact this
theorem Classes_ok : ∃ K, minors_Classes m (cs B) = some (cs K, 0) ∧ Fam m K ∧ ∀ s, s ∈ K ↔ ∃ e, e < m ∧ s = cls m B e := by
  have h8 := h.m8
  have h256 := pow_le8 h8
  suffices hg : Gets (minors_Classes m (cs B)) (fun r => ∃ K, r = (cs K, 0) ∧ Fam m K ∧ ∀ s, s ∈ K ↔ ∃ e, e < m ∧ s = cls m B e) by
    obtain ⟨r, g1, K, rfl, g2⟩ := hg
    exact ⟨K, g1, g2⟩
  unfold minors_Classes
  refine gBindE (axioms_Ranks_ok h) (gIte (fun q => absurd rfl q) fun _ => ?_)
  refine gBind (R := fun o => ∃ N, o = cs N ∧ N.Nodup ∧ N.length ≤ m ∧ ∀ s, s ∈ N ↔ ∃ e, e < m ∧ s = cls m B e)
    (gFor m (fun k (x : List Int × Int × Int) => x.2.2 = (k : Int) ∧ ∃ N D, x.1 = cs N ∧ x.2.1 = ((D : Nat) : Int) ∧ N.Nodup ∧ N.length ≤ k ∧ (∀ s, s ∈ N ↔ ∃ e, e < k ∧ s = cls m B e) ∧ ∀ x, D.testBit x = true ↔ x < m ∧ ∃ e, e < k ∧ Par m B e x) (Nat.zero_le _)
      ⟨rfl, [], 0, rfl, rfl, List.nodup_nil, Nat.le_refl _, fun s => by simp, fun x => by simp⟩ ?_) ?_
  · rintro k ⟨_, _, _⟩ hk ⟨rfl, N, D, e1, e2, n1, n2, n3, n4⟩
    simp only at e1 e2
    subst e1 e2
    simp only [toNat_nat, shl_nat', bitB]
    refine gIte (fun q1 => gChk (by omega) ?_) fun q1 => gSome (by have e : k = m := (by omega); subst e; exact ⟨N, rfl, n1, n2, n3⟩)
    have hk' : k < m := by omega
    refine gIte (fun q2 => gSome ⟨hk', by simp, N, D, rfl, rfl, n1, by omega, fun s => ?_, fun x => ?_⟩) fun q2 => ?_
    · have hD : D.testBit k = true := by
        cases z : D.testBit k
        · rw [z] at q2; simp at q2
        · rfl
      obtain ⟨_, e0, d1, d2⟩ := (n4 k).1 hD
      rw [n3]
      constructor
      · rintro ⟨e, g1, g2⟩; exact ⟨e, by omega, g2⟩
      · rintro ⟨e, g1, g2⟩
        rcases Nat.lt_succ_iff_lt_or_eq.1 g1 with c | rfl
        · exact ⟨e, c, g2⟩
        · exact ⟨e0, d1, by rw [g2, h.cls_eq d2]⟩
    · have hD : D.testBit k = true := by
        cases z : D.testBit k
        · rw [z] at q2; simp at q2
        · rfl
      obtain ⟨_, e0, d1, d2⟩ := (n4 k).1 hD
      rw [n4]
      constructor
      · rintro ⟨g0, e, g1, g2⟩; exact ⟨g0, e, by omega, g2⟩
      · rintro ⟨g0, e, g1, g2⟩
        rcases Nat.lt_succ_iff_lt_or_eq.1 g1 with c | rfl
        · exact ⟨g0, e, c, g2⟩
        · exact ⟨g0, e0, d1, h.par_trans d2 g2⟩
    have hD : D.testBit k = false := by
      cases z : D.testBit k
      · rfl
      · rw [z] at q2; simp at q2
    have hnew : ∀ e, e < k → ¬ Par m B e k := fun e he hp => by
      rw [(n4 k).2 ⟨hk', e, he, hp⟩] at hD; cases hD
    have pk := pow_lt hk'
    refine gChk (by omega) (gBind (R := fun o => o = ((cls m B k : Nat) : Int)) (gFor m (fun j (x : Int × Int) => x.2 = (j : Int) ∧ k < j ∧ ∃ S : Nat, x.1 = (S : Int) ∧ ∀ x, S.testBit x = true ↔ x = k ∨ (k < x ∧ x < j ∧ Par m B k x)) (k0 := k + 1) (by omega)
      ⟨by simp, by omega, 2 ^ k, rfl, fun x => by
        rw [testBit_pow, decide_eq_true_eq]
        constructor
        · intro z; exact .inl z.symm
        · rintro (z | ⟨z1, z2, _⟩)
          · exact z.symm
          · omega⟩ ?_) ?_)
    · rintro j ⟨_, _⟩ hj ⟨rfl, hkj, S, e3, hS⟩
      simp only at e3
      subst e3
      simp only [toNat_nat, shl_nat', or_nat, cs_len, rkL_len, cs_get]
      refine gIte (fun q3 => ?_) fun q3 => gSome ?_
      · have hj' : j < m := by omega
        have pj := pow_lt hj'
        have po := or_lt pk pj
        have p0 : 0 < 2 ^ j := Nat.pow_pos (by omega)
        have p1 : 0 < 2 ^ k := Nat.pow_pos (by omega)
        simp only [rkL_get m B pj, rkL_get m B pk, rkL_get m B po]
        refine gChk ⟨by omega, by omega, by omega, by omega, fun _ => by omega, fun _ => by omega, fun _ => by omega, fun _ => by omega⟩ ?_
        refine gIte (fun q4 => gChk (by omega) (gSome ⟨hj', by simp, by omega, _, rfl, fun x => ?_⟩)) fun q4 => gSome ⟨hj', by simp, by omega, S, rfl, fun x => ?_⟩
        · have hp : Par m B k j := ⟨by omega, by omega⟩
          rw [Nat.testBit_or, Bool.or_eq_true, hS, testBit_pow, decide_eq_true_eq]
          constructor
          · rintro ((z | ⟨z1, z2, z3⟩) | rfl)
            · exact .inl z
            · exact .inr ⟨z1, by omega, z3⟩
            · exact .inr ⟨hkj, by omega, hp⟩
          · rintro (z | ⟨z1, z2, z3⟩)
            · exact .inl (.inl z)
            · rcases Nat.lt_succ_iff_lt_or_eq.1 z2 with c | rfl
              · exact .inl (.inr ⟨z1, c, z3⟩)
              · exact .inr rfl
        · have hp : ¬ Par m B k j := fun z => q4 ⟨by have := z.1; omega, by have := z.2; omega⟩
          rw [hS]
          constructor
          · rintro (z | ⟨z1, z2, z3⟩)
            · exact .inl z
            · exact .inr ⟨z1, by omega, z3⟩
          · rintro (z | ⟨z1, z2, z3⟩)
            · exact .inl z
            · rcases Nat.lt_succ_iff_lt_or_eq.1 z2 with c | rfl
              · exact .inr ⟨z1, c, z3⟩
              · exact absurd z3 hp
      · have e4 : j = m := by omega
        subst e4
        congr 1
        refine Nat.eq_of_testBit_eq fun x => ?_
        rw [Bool.eq_iff_iff, hS, cls_bit]
        constructor
        · rintro (rfl | ⟨z1, z2, z3⟩)
          · exact ⟨hk', Par.refl _ _ _⟩
          · exact ⟨z2, z3⟩
        · rintro ⟨z1, z2⟩
          rcases Nat.lt_trichotomy k x with c | c | c
          · exact .inr ⟨c, z1, z2⟩
          · exact .inl c.symm
          · exact absurd z2.symm (hnew x c)
    · rintro _ rfl
      refine gChk (by rw [List.length_append, cs_len]; simp only [List.length_cons, List.length_nil]; omega) (gSome ⟨hk', by simp, N ++ [cls m B k], D ||| cls m B k, by rw [cs_app], by rw [← or_nat], ?_, by simp; omega, fun s => ?_, fun x => ?_⟩)
      · rw [List.nodup_append]
        refine ⟨n1, by simp, fun a ha b hb e => ?_⟩
        rw [List.mem_singleton.1 hb] at e
        obtain ⟨e0, d1, d2⟩ := (n3 a).1 ha
        have : (cls m B e0).testBit k = true := by rw [← d2, e]; exact cls_bit.2 ⟨hk', Par.refl _ _ _⟩
        exact hnew e0 d1 (cls_bit.1 this).2
      · rw [List.mem_append, List.mem_singleton, n3]
        constructor
        · rintro (⟨e, g1, g2⟩ | z)
          · exact ⟨e, by omega, g2⟩
          · exact ⟨k, by omega, z⟩
        · rintro ⟨e, g1, g2⟩
          rcases Nat.lt_succ_iff_lt_or_eq.1 g1 with c | rfl
          · exact .inl ⟨e, c, g2⟩
          · exact .inr g2
      · rw [Nat.testBit_or, Bool.or_eq_true, n4, cls_bit]
        constructor
        · rintro (⟨g0, e, g1, g2⟩ | ⟨z1, z2⟩)
          · exact ⟨g0, e, by omega, g2⟩
          · exact ⟨z1, k, by omega, z2⟩
        · rintro ⟨g0, e, g1, g2⟩
          rcases Nat.lt_succ_iff_lt_or_eq.1 g1 with c | rfl
          · exact .inl ⟨g0, e, c, g2⟩
          · exact .inr ⟨g0, g2⟩
  · rintro _ ⟨N, rfl, n1, n2, n3⟩
    obtain ⟨K, k1, k2, k3⟩ := sortP h8 N (fun s hs => by
      obtain ⟨e, _, rfl⟩ := (n3 s).1 hs
      exact h.cls_lt e) n1
    rw [k1]
    exact gChk (by simp; omega) (gSome ⟨K, rfl, k2, fun s => by rw [k3, n3]⟩)
/-- What goes: loops, and all but the least of each class. -/
theorem Simple_ok : ∃ g K, minors_Simple m (cs B) = some (((ps m g : Nat) : Int), cs K, 0) ∧ g < 2 ^ m ∧ (∀ x, x < m → (g.testBit x = true ↔ rk m B (2 ^ x) = 0 ∨ ∃ f, f < x ∧ Par m B f x)) ∧ Mat (ps m g) K ∧ ∀ x, x ∈ K ↔ ∃ b, MaxK m B (cpl m g) b ∧ x = pk m g b := by
  have h8 := h.m8
  have h256 := pow_le8 h8
  obtain ⟨L, l1, l2, l3⟩ := Classes_ok h
  have hLl := l2.len
  suffices hg : Gets (minors_Simple m (cs B)) (fun r => ∃ g K, r = (((ps m g : Nat) : Int), cs K, 0) ∧ g < 2 ^ m ∧ (∀ x, x < m → (g.testBit x = true ↔ rk m B (2 ^ x) = 0 ∨ ∃ f, f < x ∧ Par m B f x)) ∧ Mat (ps m g) K ∧ ∀ x, x ∈ K ↔ ∃ b, MaxK m B (cpl m g) b ∧ x = pk m g b) by
    obtain ⟨r, g1, g, K, rfl, g2⟩ := hg
    exact ⟨g, K, g1, g2⟩
  unfold minors_Simple
  refine gBindE l1 (gIte (fun q => absurd rfl q) fun _ => gBindE (axioms_Ranks_ok h) ?_)
  have one : ∀ i j x, i < L.length → j < L.length → (L.getD i 0).testBit x = true → (L.getD j 0).testBit x = true → i = j := fun i j x hi hj hx1 hx2 => by
    obtain ⟨e, _, d1⟩ := (l3 _).1 (mem_getD.2 ⟨i, hi, rfl⟩)
    obtain ⟨f, _, d2⟩ := (l3 _).1 (mem_getD.2 ⟨j, hj, rfl⟩)
    rw [d1] at hx1
    rw [d2] at hx2
    have e3 : L.getD i 0 = L.getD j 0 := by rw [d1, d2, h.cls_eq (cls_bit.1 hx1).2, h.cls_eq (cls_bit.1 hx2).2]
    rcases Nat.lt_trichotomy i j with c | c | c
    · have := l2.rise i j c hj; omega
    · exact c
    · have := l2.rise j i c hi; omega
  refine gBind (R := fun o => ∃ g : Nat, o = (g : Int) ∧ g < 2 ^ m ∧ ∀ x, g.testBit x = true ↔ ∃ j, j < L.length ∧ (L.getD j 0).testBit x = true ∧ (rk m B (L.getD j 0) = 0 ∨ x ≠ lo1 (L.getD j 0)))
    (gFor L.length (fun k (x : Int × Int) => x.2 = (k : Int) ∧ ∃ g : Nat, x.1 = (g : Int) ∧ g < 2 ^ m ∧ ∀ x, g.testBit x = true ↔ ∃ j, j < k ∧ (L.getD j 0).testBit x = true ∧ (rk m B (L.getD j 0) = 0 ∨ x ≠ lo1 (L.getD j 0))) (Nat.zero_le _)
      ⟨rfl, 0, rfl, Nat.pow_pos (by omega), fun x => by simp⟩ ?_) ?_
  · rintro k ⟨_, _⟩ hk ⟨rfl, g, e1, g1, g2⟩
    simp only at e1
    subst e1
    simp only [toNat_nat, cs_len, cs_get, rkL_len]
    refine gIte (fun q1 => gChk (by omega) ?_) fun q1 => gSome (by have e : k = L.length := (by omega); subst e; exact ⟨g, rfl, g1, g2⟩)
    have hk' : k < L.length := by omega
    obtain ⟨e, he, hc⟩ := (l3 _).1 (mem_getD.2 ⟨k, hk', rfl⟩)
    have hclt := h.cls_lt e
    rw [← hc] at hclt
    have hbe : (L.getD k 0).testBit e = true := by rw [hc]; exact cls_bit.2 ⟨he, Par.refl _ _ _⟩
    have hne : L.getD k 0 ≠ 0 := fun z => by rw [z] at hbe; simp at hbe
    have hlow := low_spec (show L.getD k 0 < 256 by omega) hne
    simp only [rkL_get m B hclt]
    refine gChk (by omega) (gIte (fun q2 => gChk (by omega) ?_) fun q2 => ?_)
    · simp only [hlow.neg, or_nat, dif_nat]
      refine gSome ⟨hk', by simp, _, rfl, dif_lt (or_lt g1 hclt), fun x => ?_⟩
      rw [testBit_dif, Nat.testBit_or, testBit_pow, Bool.and_eq_true, Bool.or_eq_true, Bool.not_eq_true', decide_eq_false_iff_not, g2]
      constructor
      · rintro ⟨⟨j, z1, z2⟩ | z, z3⟩
        · exact ⟨j, by omega, z2⟩
        · exact ⟨k, by omega, z, .inr fun z4 => z3 z4.symm⟩
      · rintro ⟨j, z1, z2, z3⟩
        rcases Nat.lt_succ_iff_lt_or_eq.1 z1 with c | rfl
        · refine ⟨.inl ⟨j, c, z2, z3⟩, fun z4 => ?_⟩
          subst z4
          have := one j k _ (by omega) hk' z2 hlow.bit
          omega
        · refine ⟨.inr z2, fun z4 => ?_⟩
          rcases z3 with z3 | z3
          · omega
          · exact z3 z4.symm
    · simp only [or_nat]
      refine gSome ⟨hk', by simp, _, rfl, or_lt g1 hclt, fun x => ?_⟩
      rw [Nat.testBit_or, Bool.or_eq_true, g2]
      constructor
      · rintro (⟨j, z1, z2⟩ | z)
        · exact ⟨j, by omega, z2⟩
        · exact ⟨k, by omega, z, .inl (by omega)⟩
      · rintro ⟨j, z1, z2, z3⟩
        rcases Nat.lt_succ_iff_lt_or_eq.1 z1 with c | rfl
        · exact .inl ⟨j, c, z2, z3⟩
        · exact .inr z2
  · rintro _ ⟨g, rfl, g1, g2⟩
    obtain ⟨K, k1, k2, k3⟩ := h.Delete_ok g1 (sets_Check_nat h8 g1)
    refine gBindE k1 (gSome ⟨g, K, rfl, g1, fun x hx => ?_, k2, k3⟩)
    rw [g2]
    have hcx : (cls m B x).testBit x = true := cls_bit.2 ⟨hx, Par.refl _ _ _⟩
    have low : ∀ j, j < L.length → (L.getD j 0).testBit x = true → L.getD j 0 = cls m B x := fun j hj hb => by
      obtain ⟨e, _, d1⟩ := (l3 _).1 (mem_getD.2 ⟨j, hj, rfl⟩)
      rw [d1] at hb ⊢
      exact h.cls_eq (cls_bit.1 hb).2
    have hlow := low_spec (show cls m B x < 256 by have := h.cls_lt x; omega) fun z => by rw [z] at hcx; simp at hcx
    constructor
    · rintro ⟨j, z1, z2, z3⟩
      rw [low j z1 z2] at z3
      rcases z3 with z3 | z3
      · exact .inl ((h.cls_rk hx).1 z3)
      · right
        have hp := (cls_bit.1 hlow.bit).2
        rcases Nat.lt_trichotomy (lo1 (cls m B x)) x with c | c | c
        · exact ⟨_, c, hp.symm⟩
        · exact absurd c.symm z3
        · have := hlow.least x c
          rw [hcx] at this; cases this
    · intro z
      obtain ⟨j, j1, j2⟩ := mem_getD.1 ((l3 _).2 ⟨x, hx, rfl⟩)
      refine ⟨j, j1, by rw [j2]; exact hcx, ?_⟩
      rw [j2]
      rcases z with z | ⟨f, f1, f2⟩
      · exact .inl ((h.cls_rk hx).2 z)
      · right
        intro e
        have : (cls m B x).testBit f = true := cls_bit.2 ⟨by omega, f2.symm⟩
        rw [hlow.least f (by omega)] at this; cases this
end
end Go.SH
