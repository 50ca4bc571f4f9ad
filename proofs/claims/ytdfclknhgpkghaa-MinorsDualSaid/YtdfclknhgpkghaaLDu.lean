/-
  WHITNEY: a matroid's dual: of its dual it is itself, its circuits are the complements of the hyperplanes, and taking out elements turns over; the statement MinorsDual as a plain law. Conditions: lists are no longer than 2^63 - 1.
-/
import Derived.Test.YtdfclknhgpkghaaLQ
import Derived.Test.YtdfclknhgpkghaaLF
import Derived.Test.YtdfclknhgpkghaaSkMinorsDual
set_option linter.unusedSimpArgs false
set_option linter.unusedVariables false
namespace Go.SH
open Go Go.AX

theorem cpl_inj {m a b : Nat} (ha : a < 2 ^ m) (hb : b < 2 ^ m) (e : cpl m a = cpl m b) : a = b := by
  rw [← cpl_cpl ha, ← cpl_cpl hb, e]
theorem cpl_val {m s : Nat} (h : s < 2 ^ m) : cpl m s = 2 ^ m - (s + 1) := by
  apply Nat.eq_of_testBit_eq; intro i
  rw [cpl_bit, Nat.testBit_two_pow_sub_succ h]
theorem cpl_dif {m c i : Nat} (hi : i < m) : cpl m (dif c (2 ^ i)) = cpl m c ||| 2 ^ i := set_ext (cpl_lt _ _) (or_lt (cpl_lt _ _) (pow_lt hi)) fun j hj => by
  rw [cpl_bit, Nat.testBit_or, cpl_bit, testBit_dif, testBit_pow]
  by_cases e : i = j
  · subst e; simp [hj]
  · simp [hj, e]
theorem SameM (n : Int) (l : List Int) : rotalaw_SameMatroid n l n l = some true := by
  unfold rotalaw_SameMatroid
  rw [if_pos rfl, SameB, Option.bind_some]
  simp
section
variable {m : Nat} {B K : List Nat} (h : Mat m B) (hk : Mat m K) (hm : ∀ x, x ∈ K ↔ ∃ b, b ∈ B ∧ x = cpl m b)
include h hk hm
theorem Mat.dual_rk {s : Nat} (hs : s < 2 ^ m) : rk m K s + rk m B (2 ^ m - 1) = cnt m s + rk m B (cpl m s) := by
  have one : ∀ b, b ∈ B → cnt m (s &&& cpl m b) + rk m B (2 ^ m - 1) = cnt m s + cnt m (cpl m s &&& b) := fun b hb => by
    have hbm := h.lt b hb
    rw [and_cpl hs, Nat.and_comm (cpl m s), and_cpl hbm, ← h.full_rk b hb]
    have q1 := cnt_split m s b
    have q2 := cnt_split m b s
    rw [Nat.and_comm b s] at q2
    omega
  obtain ⟨x, hx, e1⟩ := hk.rk_mem s
  obtain ⟨b, hb, rfl⟩ := (hm x).1 hx
  obtain ⟨b', hb', e2⟩ := h.rk_mem (cpl m s)
  have a1 := one b hb
  have a2 := one b' hb'
  have a3 := le_rk (m := m) (s := cpl m s) hb
  have a4 := le_rk (m := m) (s := s) ((hm _).2 ⟨b', hb', rfl⟩)
  omega
theorem Mat.dual_circ {c : Nat} (hc : c < 2 ^ m) : Circ m K c ↔ Hyper m B (cpl m c) := by
  have e0 := h.dual_rk hk hm hc
  have up : ∀ i, i < m → rk m B (cpl m c ||| 2 ^ i) ≤ rk m B (2 ^ m - 1) := fun i hi => h.rk_mono fun j hj => by
    rw [full_bit]
    simpa using bit_lt (or_lt (cpl_lt m c) (pow_lt hi)) hj
  have e1 : ∀ i, i < m → c.testBit i = true → rk m K (dif c (2 ^ i)) + rk m B (2 ^ m - 1) = cnt m (dif c (2 ^ i)) + rk m B (cpl m c ||| 2 ^ i) := fun i hi _ => by
    rw [← cpl_dif hi]; exact h.dual_rk hk hm (dif_lt hc)
  have bit : ∀ i, i < m → ((cpl m c).testBit i = false ↔ c.testBit i = true) := fun i hi => by
    rw [cpl_bit]; simp [hi]
  constructor
  · rintro ⟨h1, h2⟩
    refine ⟨by omega, fun i hi hb => ?_⟩
    have q := (bit i hi).1 hb
    have := e1 i hi q
    have := h2 i hi q
    omega
  · rintro ⟨h1, h2⟩
    refine ⟨by omega, fun i hi hb => ?_⟩
    have q := h2 i hi ((bit i hi).2 hb)
    have q1 := e1 i hi hb
    have q2 := h.rk_step (cpl m c) hi
    have q3 := h.rk_mono (inc_or_l (cpl m c) (2 ^ i))
    omega
/-- The circuits of the dual: complements of the hyperplanes, the other way round. -/
theorem Mat.dual_list : (List.range (2 ^ m)).filter (fun s => Circ m K s) = (((List.range (2 ^ m)).filter (fun s => Hyper m B s)).map (cpl m)).reverse := by
  have h8 := h.m8
  have f1 : Fam m ((List.range (2 ^ m)).filter (fun s => decide (Circ m K s))) := filter_fam h8 _
  have f2 : Fam m ((List.range (2 ^ m)).filter (fun s => decide (Hyper m B s))) := filter_fam h8 _
  refine f1.ext (n := m) ⟨h8, fun s hs => ?_, fun i j hij hj => ?_⟩ fun s => ?_
  · rw [List.mem_reverse, List.mem_map] at hs
    obtain ⟨b, _, rfl⟩ := hs
    exact cpl_lt m b
  · generalize (List.range (2 ^ m)).filter (fun s => decide (Hyper m B s)) = L at *
    rw [List.length_reverse, List.length_map] at hj
    have g : ∀ k, k < L.length → ((L.map (cpl m)).reverse).getD k 0 = cpl m (L.getD (L.length - 1 - k) 0) := fun k hk => by
      rw [List.getD_eq_getElem?_getD, List.getElem?_reverse (by simpa using hk), List.length_map, List.getElem?_map, List.getD_eq_getElem?_getD, List.getElem?_eq_getElem (show L.length - 1 - k < L.length by omega)]
      rfl
    rw [g i (by omega), g j hj]
    have r := f2.rise (L.length - 1 - j) (L.length - 1 - i) (by omega) (by omega)
    have l1 := f2.lt _ (mem_getD.2 ⟨L.length - 1 - j, by omega, rfl⟩)
    have l2 := f2.lt _ (mem_getD.2 ⟨L.length - 1 - i, by omega, rfl⟩)
    rw [cpl_val l1, cpl_val l2]
    omega
  · rw [List.mem_reverse, List.mem_map, List.mem_filter, List.mem_range, decide_eq_true_eq]
    constructor
    · rintro ⟨h1, h2⟩
      refine ⟨cpl m s, ?_, cpl_cpl h1⟩
      rw [List.mem_filter, List.mem_range, decide_eq_true_eq]
      exact ⟨cpl_lt _ _, (h.dual_circ hk hm h1).1 h2⟩
    · rintro ⟨b, hb, rfl⟩
      rw [List.mem_filter, List.mem_range, decide_eq_true_eq] at hb
      refine ⟨cpl_lt _ _, (h.dual_circ hk hm (cpl_lt _ _)).2 ?_⟩
      rw [cpl_cpl hb.1]; exact hb.2
/-- Most outside s for complements: most inside. -/
theorem Mat.dual_maxK {s b : Nat} (hs : s < 2 ^ m) (hb : b < 2 ^ m) : MaxK m K (cpl m s) (cpl m b) ↔ MaxK m B s b := by
  have _ := hk
  have one : ∀ b, b ∈ B → cnt m (cpl m b &&& cpl m s) + cnt m b + cnt m s = m + cnt m (b &&& s) := fun b hb => by
    have hbm := h.lt b hb
    have e : cpl m b &&& cpl m s = cpl m (b ||| s) := set_ext (and_lt (cpl_lt _ _)) (cpl_lt _ _) fun i hi => by
      rw [Nat.testBit_and, cpl_bit, cpl_bit, cpl_bit, Nat.testBit_or]
      cases b.testBit i <;> cases s.testBit i <;> simp [hi]
    have q1 := cnt_or_and m b s
    have q2 := cpl_cnt (m := m) (s := b ||| s)
    rw [e]; omega
  have mem : cpl m b ∈ K ↔ b ∈ B := by
    rw [hm]
    exact ⟨fun ⟨b', h1, h2⟩ => by rw [cpl_inj hb (h.lt b' h1) h2]; exact h1, fun q => ⟨b, q, rfl⟩⟩
  constructor
  · rintro ⟨h1, h2⟩
    have hbB := mem.1 h1
    refine ⟨hbB, fun b' hb' => ?_⟩
    have q1 := h2 _ ((hm _).2 ⟨b', hb', rfl⟩)
    have q2 := one b hbB
    have q3 := one b' hb'
    have q4 := h.eqc b hbB b' hb'
    omega
  · rintro ⟨h1, h2⟩
    refine ⟨mem.2 h1, fun x hx => ?_⟩
    obtain ⟨b', hb', rfl⟩ := (hm x).1 hx
    have q1 := h2 b' hb'
    have q2 := one b h1
    have q3 := one b' hb'
    have q4 := h.eqc b h1 b' hb'
    omega
end

theorem dual_two : minors_Dual 4 (cs twoB) = some (4, cs twoB, 0) := by
  obtain ⟨K, h1, h2, h3⟩ := mat_two.Dual_ok
  have : K = twoB := h2.toFam.ext mat_two.toFam fun s => by
    rw [h3]
    have key : ∀ b, b ∈ twoB → cpl 4 b ∈ twoB := by decide
    constructor
    · rintro ⟨b, hb, rfl⟩; exact key b hb
    · intro hs; exact ⟨cpl 4 s, key s hs, (cpl_cpl (mat_two.lt s hs)).symm⟩
  rw [this] at h1
  exact h1

theorem rotakeep_MinorsDual_law (n : Int) (l : List Int) (a : Int) (hl : l.length ≤ 9223372036854775807) : rotakeep_MinorsDual n l a = some true := by
  refine Gets.eq ?_
  unfold rotakeep_MinorsDual
  simp only [two_eq, Option.bind_some, dual_two, SameM]
  unfold joinM
  refine gIte (fun _ => ?_) fun q => absurd (by simp) q
  refine gIte (fun q => absurd trivial q) fun _ => ?_
  obtain ⟨e, he, hs⟩ := axioms_Check_spec n l hl
  rcases hs with ⟨rfl, m, B, rfl, rfl, hM⟩ | ⟨hne, _⟩
  rotate_left
  · have : minors_Dual n l = some (0, [], e) := by
      unfold minors_Dual
      rw [he, Option.bind_some, if_pos hne]
    exact gBindE this (gIte (fun _ => gSome (by simp)) fun q => absurd hne q)
  have h8 := hM.m8
  have h256 := pow_le8 h8
  obtain ⟨K, k1, hK, k3⟩ := hM.Dual_ok
  refine gBindE k1 (gIte (fun q => absurd rfl q) fun _ => ?_)
  obtain ⟨K2, j1, hK2, j3⟩ := hK.Dual_ok
  have hK2B : K2 = B := hK2.toFam.ext hM.toFam fun s => by
    rw [j3]
    constructor
    · rintro ⟨x, hx, rfl⟩
      obtain ⟨b, hb, rfl⟩ := (k3 x).1 hx
      rw [cpl_cpl (hM.lt b hb)]; exact hb
    · intro hs
      exact ⟨cpl m s, (k3 _).2 ⟨s, hs, rfl⟩, (cpl_cpl (hM.lt s hs)).symm⟩
  subst hK2B
  refine gBindE j1 ?_
  have hKl := hK.len
  have hMl := hM.len
  refine gBind (axioms_Circuits_spec m (cs K) (by simp; omega)) ?_
  rintro ⟨c1, c2⟩ hc
  rcases hc with ⟨e1, m', B', em, el, _, e2⟩ | ⟨_, _, hn⟩
  rotate_left
  · exact absurd ⟨m, K, rfl, rfl, hK⟩ hn
  have em : m = m' := by omega
  subst em
  have el := cs_inj el
  subst el
  refine gBind (axioms_Hyperplanes_spec m (cs K2) (by simp; omega)) ?_
  rintro ⟨d1, d2⟩ hd
  rcases hd with ⟨e3, m', B', em, el, _, e4⟩ | ⟨_, _, hn⟩
  rotate_left
  · exact absurd ⟨m, K2, rfl, rfl, hM⟩ hn
  have em : m = m' := by omega
  subst em
  have el := cs_inj el
  subst el
  simp only at e1 e2 e3 e4
  have hdl := hM.dual_list hK k3
  have fH : Fam m ((List.range (2 ^ m)).filter (fun s => decide (Hyper m K2 s))) := filter_fam h8 _
  rw [hdl] at e2
  generalize (List.range (2 ^ m)).filter (fun s => decide (Hyper m K2 s)) = H at *
  subst e1 e2 e3 e4
  have hHl := fH.len
  refine gBindE (a := true) (by rw [if_pos (by simp)]; exact SameM _ _) (gIte (fun q => absurd q (by simp)) fun _ => ?_)
  refine gBind (R := fun z => match z with | .inl _ => True | .inr r => False) (gFor H.length (fun k v => v = (k : Int)) (Nat.zero_le _) rfl ?_) ?_
  · rintro k _ hk rfl
    simp only [cs_len, List.length_reverse, List.length_map]
    refine gIte (fun h1 => gChk (by omega) (gChk (by omega) ?_)) fun h1 => gSome trivial
    have hk' : k < H.length := by omega
    rw [rotaref_All_nat h8]
    simp only [Option.bind_some, cs_get, toNat_nat]
    have ei : (((H.length : Nat) : Int) - 1 - (k : Int)).toNat = H.length - 1 - k := by omega
    have g : ((H.map (cpl m)).reverse).getD k 0 = cpl m (H.getD (H.length - 1 - k) 0) := by
      rw [List.getD_eq_getElem?_getD, List.getElem?_reverse (by simpa using hk'), List.length_map, List.getElem?_map, List.getD_eq_getElem?_getD, List.getElem?_eq_getElem (show H.length - 1 - k < H.length by omega)]
      rfl
    have hlt := fH.lt _ (mem_getD.2 ⟨H.length - 1 - k, by omega, rfl⟩)
    rw [ei, g, dif_nat]
    have e5 : dif (2 ^ m - 1) (cpl m (H.getD (H.length - 1 - k) 0)) = H.getD (H.length - 1 - k) 0 := cpl_cpl hlt
    rw [e5]
    exact gIte (fun q => absurd rfl q) fun _ => gSome ⟨hk', by simp⟩
  · rintro (u | rr) hz
    rotate_left
    · exact hz.elim
    rcases hM.Check_set (a := a) h8 with ⟨s, rfl, hs, hcs⟩ | hbad
    rotate_left
    · exact gBindE (hK.Delete_bad hbad).1 (gBindE (hM.Delete_bad hbad).2 (gIte (fun _ => gSome (by simp)) fun q => absurd (by simp) q))
    obtain ⟨D, d1, hD, d3⟩ := hK.Delete_ok hs hcs
    obtain ⟨C, c1, hC, c3⟩ := hM.Contract_ok hs hcs
    obtain ⟨C2, f1, hC2, f3⟩ := hC.Dual_ok
    refine gBindE d1 (gBindE c1 (gIte (fun q => absurd rfl q) fun _ => gBindE f1 ?_))
    have hDC : D = C2 := hD.toFam.ext hC2.toFam fun x => by
      rw [d3, f3]
      constructor
      · rintro ⟨y, hy, rfl⟩
        obtain ⟨b, hb, rfl⟩ := (k3 y).1 hy.1
        have hb2 := hM.lt b hb
        exact ⟨pk m s b, (c3 _).2 ⟨b, (hM.dual_maxK hK k3 hs hb2).1 hy, rfl⟩, pk_cpl⟩
      · rintro ⟨y, hy, rfl⟩
        obtain ⟨b, hb, rfl⟩ := (c3 y).1 hy
        exact ⟨cpl m b, (hM.dual_maxK hK k3 hs (hM.lt b hb.1)).2 hb, pk_cpl.symm⟩
    subst hDC
    exact gBindE (a := true) (by rw [if_pos (by simp)]; exact SameM _ _) (gSome (by simp))
end Go.SH
