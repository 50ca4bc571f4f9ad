/-
  HALL: all sets have elements of their own just if no sets have too few together; KOENIG: lines are as many as stand; the statement HallMarries as a plain law. Conditions: lists are no longer than 2^63 - 1.
-/
import Derived.Test.YtobpcecpfojpmaaDoorLHt
set_option linter.unusedSimpArgs false
set_option linter.unusedVariables false
namespace Go.SH
open Go Go.AX

theorem SameH (l : List Int) : rotalaw_Same_int l l = some true := by
  refine Gets.eq ?_
  unfold rotalaw_Same_int
  refine gIte (fun q => absurd rfl q) fun _ => ?_
  refine gBind (R := fun z => match z with | .inl _ => True | .inr r => False) (gFor l.length (fun k v => v = (k : Int)) (Nat.zero_le _) rfl ?_) ?_
  · rintro k _ hk rfl
    refine gIte (fun h1 => gChk (by omega) (gIte (fun q => absurd rfl q) fun _ => gSome ⟨by omega, by simp⟩)) fun h1 => gSome trivial
  · rintro (u | r) hz
    · exact gSome rfl
    · exact hz.elim
theorem Within_nat (a b : Nat) : Gets (rotaref_Within a b) (fun r => r = true ↔ Inc a b) := by
  unfold rotaref_Within
  refine gSome ?_
  rw [or_nat, decide_eq_true_eq, ← or_eq_iff]
  omega
theorem ok31 : HOk 2 [3, 1] := ⟨by omega, by decide, by decide⟩
theorem Stand31 : Gets (hall_Stand 2 [3, 1]) (fun y => y = ([1, 0], 0)) := by
  have h : Gets (hall_Stand ((2 : Nat) : Int) (cs [3, 1])) (fun y => y = ([1, 0], 0)) := by
    refine (Stand_spec ok31).mono fun r hr => ?_
    rcases hr with ⟨_, hn⟩ | ⟨_, out, rfl, h1, h2, h3⟩
    · exact absurd ⟨fun v => if v = 0 then 1 else 0, fun v hv => (by
        match v, hv with
        | 0, _ => decide
        | 1, _ => decide), fun v w hv hw e => (by
        match v, hv, w, hw with
        | 0, _, 0, _ => rfl
        | 0, _, 1, _ => simp at e
        | 1, _, 0, _ => simp at e
        | 1, _, 1, _ => rfl)⟩ hn
    · match out, h1 with
      | [a, b], _ =>
        have k0 : Nat.testBit 3 a = true := h2 0 (by decide)
        have k1 : Nat.testBit 1 b = true := h2 1 (by decide)
        have hb : b = 0 := by
          rw [show (1 : Nat) = 2 ^ 0 from rfl, testBit_pow, decide_eq_true_eq] at k1; exact k1.symm
        have ha : a < 2 := bit_lt (m := 2) (by omega) k0
        have hab : a ≠ b := fun e => absurd (h3 0 1 (by decide) (by decide) e) (by omega)
        have : a = 1 := by omega
        rw [this, hb]; rfl
  exact h

theorem rotakeep_HallMarries_law (n : Int) (l : List Int) (hl : l.length ≤ 9223372036854775807) : rotakeep_HallMarries n l = some true := by
  refine Gets.eq ?_
  unfold rotakeep_HallMarries
  refine gBind Stand31 ?_
  rintro _ rfl
  refine gIte (fun _ => ?_) fun q => absurd (by simp) q
  refine gBindE (SameH _) (gIte (fun q => absurd rfl q) fun _ => ?_)
  obtain ⟨c, hc, hs⟩ := hall_Check_spec n l hl
  rcases hs with ⟨rfl, m, L, rfl, rfl, h⟩ | h0
  rotate_left
  · have e1 : hall_Most n l = some (0, c) := by unfold hall_Most; rw [hc, Option.bind_some, if_pos h0]
    have e2 : hall_Stand n l = some ([], c) := by unfold hall_Stand; rw [hc, Option.bind_some, if_pos h0]
    have e3 : hall_Bar n l = some (0, c) := by unfold hall_Bar; rw [hc, Option.bind_some, if_pos h0]
    exact gBindE e2 (gBindE e3 (gBindE e1 (gIte (fun _ => gSome (by simp)) fun q => absurd h0 q)))
  have hm8 := h.n8
  have hl8 := h.l8
  have hp8 := pow_le8 hm8
  have hq8 := pow_le8 hl8
  obtain ⟨⟨of, many⟩, hmat, hMO⟩ := matched_spec h
  simp only at hMO
  have eM : hall_Most m (cs L) = some (many, 0) := by
    unfold hall_Most
    rw [h.check, Option.bind_some, if_neg (by simp), hmat]; rfl
  have hfull := hMO.full h
  have hbd := hMO.bd
  obtain ⟨o1, s0, hs0, o2⟩ := hMO.ore
  have o1' : ∀ s, s < 2 ^ L.length → ((cnt L.length s : Nat) : Int) - (cnt m (nb m L s) : Nat) ≤ L.length - many := fun s hs => o1 s _ hs (nb_lt m L s) (h.isN s)
  have o2' := o2 _ (nb_lt m L s0) (h.isN s0)
  refine gBind (Stand_spec h) fun y2 hy2 => gBind (Bar_spec h) fun y3 hy3 => gBindE eM ?_
  refine gIte (fun q => absurd rfl q) fun _ => ?_
  have hB : y3.2 = 0 ↔ ¬ Full L := by
    rw [← hfull]
    rcases hy3 with ⟨q, s, q1, q2⟩ | ⟨q, q1⟩
    · have := o1' s q1
      exact ⟨fun _ e => by omega, fun _ => q⟩
    · have := q1 s0 hs0
      exact ⟨fun e => by omega, fun e => absurd (show many = L.length by omega) e⟩
  have hS : y2.2 = 0 ↔ Full L := by
    rcases hy2 with ⟨rfl, hn⟩ | ⟨hF, out, rfl, _⟩
    · exact ⟨fun e => by simp at e, fun e => absurd e hn⟩
    · exact ⟨fun _ => hF, fun _ => rfl⟩
  simp only [cs_len]
  refine gIte (fun q => absurd q ?_) fun _ => ?_
  · rw [hS, hB, hfull]
    rcases Classical.em (Full L) with c | c <;> simp [c]
  refine gBind (R := fun z => match z with | .inl _ => True | .inr r => False) (gFor y2.1.length (fun k (x : Int × Int) => x.2 = (k : Int) ∧ ∃ u : Nat, x.1 = (u : Int) ∧ ∀ x, u.testBit x = true ↔ ∃ j, j < k ∧ y2.1.getD j 0 = ((x : Nat) : Int)) (Nat.zero_le _) ⟨rfl, 0, rfl, fun x => by simp⟩ ?_) ?_
  · rintro k ⟨_, _⟩ hk ⟨rfl, u, rfl, hu⟩
    dsimp only
    refine gIte (fun h1 => ?_) fun h1 => gSome trivial
    have hk' : k < y2.1.length := by omega
    rcases hy2 with ⟨rfl, hn⟩ | ⟨hF, out, rfl, a1, a2, a3⟩
    · simp at hk'
    simp only [cs_len, cs_get, toNat_nat] at hu hk' ⊢
    have hin := a2 k (by omega)
    have hlk := h.lt k (by omega)
    have hob := bit_lt hlk hin
    refine gChk (by omega) (gChk (by omega) ?_)
    rw [rotaref_In_nat, Option.bind_some, hin]
    refine gBindE (show _ = some (u.testBit (out.getD k 0)) by rw [if_pos (by simp), rotaref_In_nat]) ?_
    have hnu : u.testBit (out.getD k 0) = false := by
      cases q : u.testBit (out.getD k 0) with
      | false => rfl
      | true =>
        obtain ⟨j, j1, j2⟩ := (hu _).1 q
        have := a3 j k (by omega) (by omega) (by omega)
        omega
    rw [hnu]
    refine gIte (fun q => absurd q (by simp)) fun _ => gChk (by omega) (gSome ⟨hk', by simp, u ||| 2 ^ out.getD k 0, by rw [shl_nat', or_nat], fun x => ?_⟩)
    rw [Nat.testBit_or, Bool.or_eq_true, hu, testBit_pow, decide_eq_true_eq]
    constructor
    · rintro (⟨j, j1, j2⟩ | c)
      · exact ⟨j, by omega, j2⟩
      · exact ⟨k, by omega, by omega⟩
    · rintro ⟨j, j1, j2⟩
      rcases Nat.lt_succ_iff_lt_or_eq.1 j1 with c | c
      · exact .inl ⟨j, c, j2⟩
      · subst c; exact .inr (by omega)
  rintro (u | r) hz
  rotate_left
  · exact hz.elim
  dsimp only
  refine gBind (Lines_spec h) ?_
  rintro _ ⟨s, hs, rfl, hmin⟩
  have hn := nb_lt m L (cpl L.length s)
  refine gBindE (show _ = some ((cnt L.length s : Nat) : Int) by rw [if_pos (by simp), rotaref_Size_nat, size_of_lt hs hl8]) ?_
  refine gBindE (show _ = some ((cnt m (nb m L (cpl L.length s)) : Nat) : Int) by rw [if_pos (by simp), rotaref_Size_nat, size_of_lt hn hm8]) ?_
  have key : ((cnt L.length s : Nat) : Int) + ((cnt m (nb m L (cpl L.length s)) : Nat) : Int) = many := by
    have k1 := hmin (cpl L.length s0) (cpl_lt _ _)
    rw [cpl_cpl hs0] at k1
    have k2 := cpl_cnt (m := L.length) (s := s0)
    have k3 := o1' (cpl L.length s) (cpl_lt _ _)
    have k4 := cpl_cnt (m := L.length) (s := s)
    omega
  refine gChk (fun _ => by omega) (gIte (fun q => absurd q (by simp; omega)) fun _ => ?_)
  refine gBind (R := fun z => match z with | .inl _ => True | .inr r => False) (gFor L.length (fun k v => v = (k : Int)) (Nat.zero_le _) rfl ?_) ?_
  · rintro k _ hk rfl
    simp only [toNat_nat, cs_get]
    refine gIte (fun h1 => gChk (by omega) ?_) fun h1 => gSome trivial
    have hk' : k < L.length := by omega
    rw [rotaref_In_nat, Option.bind_some]
    cases hb : s.testBit k with
    | true =>
      rw [if_neg (by simp), Option.bind_some]
      exact gIte (fun q => absurd rfl q.1) fun _ => gSome ⟨hk', by simp⟩
    | false =>
      rw [if_pos (by simp)]
      refine gBind (Within_nat _ _) fun y hy => ?_
      have : y = true := hy.2 fun x hx => (h.nb_bit _ x).2 ⟨k, hk', by rw [cpl_bit, hb]; simp [hk'], hx⟩
      rw [this]
      exact gIte (fun q => absurd rfl q.2) fun _ => gSome ⟨hk', by simp⟩
  rintro (u | r) hz
  rotate_left
  · exact hz.elim
  dsimp only
  refine gBind (Transversal_spec h) ?_
  rintro _ ⟨K, rfl, hK⟩
  obtain ⟨⟨t, t1, t2, t3⟩, t4⟩ := hMO.sdr h
  have htK : t ∈ K := (hK t).2 ⟨t1, t2, fun w w1 w2 => by have := t4 w w1 w2; omega⟩
  have hlen : 0 < K.length := List.length_pos_of_mem htK
  simp only [cs_len, cs_get]
  refine gChk (fun _ => by omega) ?_
  have hK0 := (hK (K.getD 0 0)).1 (mem_getD.2 ⟨0, hlen, rfl⟩)
  have e5 : ((cnt m (K.getD 0 0) : Nat) : Int) = many := by
    have := hK0.2.2 t t1 t2
    have := t4 _ hK0.1 hK0.2.1
    omega
  refine gBindE (show _ = some many by rw [if_pos ⟨trivial, by omega⟩, rotaref_Size_nat, size_of_lt hK0.1 hm8, e5]) ?_
  refine gSome ?_
  rw [decide_eq_true_eq]
  exact ⟨⟨trivial, by omega⟩, rfl⟩
end Go.SH
