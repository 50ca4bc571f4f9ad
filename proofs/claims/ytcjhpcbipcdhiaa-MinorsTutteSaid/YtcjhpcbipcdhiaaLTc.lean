/-
  The law MinorsTutte. Conditions: none.
-/
import Derived.Test.YtcjhpcbipcdhiaaLTb
import Derived.Test.YtcjhpcbipcdhiaaSkMinorsTutte
set_option linter.unusedSimpArgs false
set_option linter.unusedVariables false
namespace Go.SH
open Go Go.AX

theorem cpl_full {m : Nat} : cpl m (2 ^ m - 1) = 0 := Nat.eq_of_testBit_eq fun i => by rw [cpl_bit, full_bit, Nat.zero_testBit]; cases decide (i < m) <;> rfl
/-- Two components and more: a set that no circuit leaves, neither all nor nothing. -/
theorem comps_two {n : Nat} {B K : List Nat} (hK : Fam n K) (hk : ∀ s, s ∈ K → ∃ v, v < n ∧ IsComp n B v s) (h2 : 1 < K.length) : ∃ S, S < 2 ^ n ∧ Sep n B S ∧ S ≠ 0 ∧ cpl n S ≠ 0 := by
  obtain ⟨v, _, hs⟩ := hk _ (mem_getD.2 ⟨0, by omega, rfl⟩)
  obtain ⟨u, _, ht⟩ := hk _ (mem_getD.2 ⟨1, h2, rfl⟩)
  have hlt := hK.rise 0 1 (by omega) h2
  refine ⟨K.getD 0 0, hs.lt, hs.sep, fun e => ?_, fun e => ?_⟩
  · have := hs.mem; rw [e] at this; simp at this
  · have e1 : K.getD 0 0 = 2 ^ n - 1 := by
      rw [← cpl_cpl hs.lt, e]
      exact Nat.eq_of_testBit_eq fun i => by rw [cpl_bit, full_bit]; simp
    have := ht.lt
    omega
theorem rotakeep_MinorsTutte_law (n : Int) (l : List Int) (hl : l.length ≤ 9223372036854775807) : rotakeep_MinorsTutte n l = some true := by
  refine Gets.eq ?_
  unfold rotakeep_MinorsTutte
  refine gBindE two_eq ?_
  have hex : ∃ K, minors_Contract (4 : Nat) (cs twoB) (1 : Nat) = some (((3 : Nat) : Int), cs K, 0) ∧ cs K = [1, 2, 4] := by
    obtain ⟨K, k1, k2, k3⟩ := mat_two.Contract_ok (s := 1) (by decide) (sets_Check_nat (by decide) (by decide))
    refine ⟨K, k1, ?_⟩
    have hF : Fam 3 [1, 2, 4] := ⟨by omega, by decide, rise_small (by decide)⟩
    have e : K = [1, 2, 4] := Fam.ext (m := 3) k2.toFam hF fun x => by
      rw [k3]
      constructor
      · rintro ⟨b, ⟨b1, b2⟩, rfl⟩
        have := b2 3 (by decide)
        revert this
        revert b1
        have : ∀ b, b ∈ twoB → cnt 4 (3 &&& 1) ≤ cnt 4 (b &&& 1) → pk 4 1 b ∈ [1, 2, 4] := by decide
        exact this b
      · intro hx
        have key : ∀ x, x ∈ [1, 2, 4] → ∃ b, b ∈ twoB ∧ (∀ b', b' ∈ twoB → cnt 4 (b' &&& 1) ≤ cnt 4 (b &&& 1)) ∧ x = pk 4 1 b := by decide
        obtain ⟨b, b1, b2, b3⟩ := key x hx
        exact ⟨b, ⟨b1, b2⟩, b3⟩
    rw [e]; rfl
  obtain ⟨K0, k01, k02⟩ := hex
  refine gBindE k01 (gIte (fun _ => ?_) fun q => absurd (by simp) q)
  simp only [k02]
  refine gBindE (SameB _) (gIte (fun q => absurd rfl q) fun _ => ?_)
  obtain ⟨y3, e3, hy3⟩ := Components_spec n l hl
  refine gBindE e3 ?_
  rcases hy3 with ⟨h1, h2⟩ | ⟨h0, m, B, rfl, rfl, h⟩
  · exact gIte (fun _ => gSome (by simp [h2])) fun q => absurd (.inl (.inl h1)) q
  refine gIte (fun _ => gSome (by simp [h0])) fun q => ?_
  obtain ⟨K, k1, k2, k3, k4⟩ := Components_ok h
  have hyK : y3 = (cs K, 0) := Option.some.inj (e3.symm.trans k1)
  subst hyK
  simp only [cs_len] at q
  have hK1 : K.length = 1 := by
    rcases Nat.decEq K.length 1 with c | c
    · exact absurd (.inl (.inr (by omega))) q
    · exact c
  have hm2 : 2 ≤ m := by
    rcases Nat.lt_or_ge m 2 with c | c
    · exact absurd (.inr (by omega)) q
    · exact c
  have h8 := h.m8
  have h256 := pow_le8 h8
  have hone : ∀ s, s ∈ K → s = K.getD 0 0 := fun s hs => by
    obtain ⟨j, j1, rfl⟩ := mem_getD.1 hs
    have : j = 0 := by omega
    rw [this]
  have hconn : ∀ S, S < 2 ^ m → S ≠ 0 → cpl m S ≠ 0 → rk m B (2 ^ m - 1) < rk m B S + rk m B (cpl m S) := fun S hS s0 s1 => by
    rcases Nat.lt_or_ge (rk m B (2 ^ m - 1)) (rk m B S + rk m B (cpl m S)) with c | c
    · exact c
    exfalso
    have a1 := h.rk_sep hS c
    have a2 := h.rk_sep (S := cpl m S) (cpl_lt _ _) (by rw [cpl_cpl hS]; omega)
    obtain ⟨i, hi⟩ := exists_bit s0
    obtain ⟨j, hj⟩ := exists_bit s1
    obtain ⟨s, g1, g2⟩ := k4 i (bit_lt hS hi)
    obtain ⟨t, g3, g4⟩ := k4 j (bit_lt (cpl_lt _ _) hj)
    have e : s = t := (hone s g1).trans (hone t g3).symm
    subst e
    have := g4.least _ (cpl_lt _ _) a2 hj i g2.mem
    rw [cpl_bit, hi] at this
    simp at this
  refine gBind (R := fun z => match z with | .inl _ => True | .inr r => False) (gFor m (fun k v => v = (k : Int)) (Nat.zero_le _) rfl ?_) ?_
  rotate_left
  · rintro (u | rr) hz
    · exact gSome rfl
    · exact hz.elim
  rintro v _ hv rfl
  simp only [toNat_nat, shl_nat']
  refine gIte (fun q1 => ?_) fun q1 => gSome trivial
  have hv' : v < m := by omega
  have hp := pow_lt hv'
  have hck := sets_Check_nat h8 hp
  obtain ⟨D, d1, d2, d3⟩ := h.Delete_ok hp hck
  obtain ⟨C, c1, c2, c3⟩ := h.Contract_ok hp hck
  obtain ⟨L6, l1, l2, l3, _⟩ := Components_ok d2
  obtain ⟨L7, n1, n2, n3, _⟩ := Components_ok c2
  refine gChk (by omega) (gBindE d1 (gChk (by omega) (gBindE c1 (gBindE l1 (gBindE n1 ?_)))))
  refine gIte (fun z => ?_) fun _ => gSome ⟨hv', by simp⟩
  exfalso
  simp only [cs_len] at z
  have z' := z.resolve_left (by simp)
  have z6 : 1 < L6.length := by omega
  have z7 : 1 < L7.length := by omega
  obtain ⟨S, s1, s2, s3, s4⟩ := comps_two l2 l3 z6
  obtain ⟨T, t1, t2, t3, t4⟩ := comps_two n2 n3 z7
  have hSr := d2.sep_rk s1 s2
  have hTr := c2.sep_rk t1 t2
  have hXi := up_inc m (2 ^ v) S
  have hUi := up_inc m (2 ^ v) T
  have eS := pk_up s1
  have eT := pk_up t1
  generalize upS' m (2 ^ v) S = X at hXi eS
  generalize upS' m (2 ^ v) T = U at hUi eT
  subst eS eT
  have zero : pk m (2 ^ v) 0 = 0 := Nat.eq_of_testBit_eq fun j => by
    rw [Nat.zero_testBit]
    cases q : (pk m (2 ^ v) 0).testBit j
    · rfl
    · obtain ⟨i, _, _, h3, _⟩ := (pk_bit m (2 ^ v) 0 j).1 q
      simp at h3
  have out : ∀ Z, pk m (2 ^ v) Z ≠ 0 → dif Z (2 ^ v) ≠ 0 := fun Z hZ hd => by
    obtain ⟨j, hj⟩ := exists_bit hZ
    obtain ⟨i, i1, i2, i3, _⟩ := (pk_bit m (2 ^ v) Z j).1 hj
    have : (dif Z (2 ^ v)).testBit i = true := by rw [testBit_dif, i3, i2]; rfl
    rw [hd] at this; simp at this
  have stay : ∀ Z, Inc Z (cpl m (2 ^ v)) → dif Z (2 ^ v) = Z := fun Z hZ => Nat.eq_of_testBit_eq fun i => by
    rw [testBit_dif]
    cases q : Z.testBit i
    · rfl
    · have := hZ i q
      rw [cpl_bit] at this
      simp only [Bool.and_eq_true, Bool.not_eq_true'] at this
      rw [this.2]; rfl
  have lU := hUi.lt (cpl_lt _ _)
  rw [← pk_cpl] at hSr hTr s4 t4
  rw [← pk_full, h.del_rk d3, h.del_rk d3, h.del_rk d3, stay X hXi] at hSr
  rw [← pk_full] at hTr
  have g1 := h.con_rk (X := U) lU hp c3
  have g2 := h.con_rk (X := cpl m U) (cpl_lt _ _) hp c3
  have g3 := h.con_rk (X := 2 ^ m - 1) (full_lt m) hp c3
  have e1 : (2 ^ m - 1) ||| 2 ^ v = 2 ^ m - 1 := Nat.eq_of_testBit_eq fun i => by
    rw [Nat.testBit_or, full_bit, testBit_pow]
    by_cases c : v = i
    · subst c; simp [hv']
    · simp [c]
  have e2 : dif (cpl m U) (2 ^ v) ||| 2 ^ v = cpl m U ||| 2 ^ v := Nat.eq_of_testBit_eq fun i => by
    rw [Nat.testBit_or, testBit_dif, Nat.testBit_or, testBit_pow]
    by_cases c : v = i
    · subst c; simp
    · simp [c]
  rw [e1] at g3
  exact h.tutte hconn hv' hm2 hXi hUi (fun e => s3 (by rw [e, zero])) (out _ s4) (fun e => t3 (by rw [e, zero])) (out _ t4) hSr (by rw [e2]; omega)
end Go.SH
