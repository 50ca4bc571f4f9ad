/-
  Elements that stand for sets: the checks, the matching. Conditions: lists are no longer than 2^63 - 1.
-/
import Derived.Test.YtobpcecpfojpmaaDoorLHm
set_option linter.unusedSimpArgs false
set_option linter.unusedVariables false
namespace Go.SH
open Go Go.AX

/-- A list of sets that may be asked of. -/
structure HOk (n : Nat) (L : List Nat) : Prop where
  n8 : n ≤ 8
  l8 : L.length ≤ 8
  lt : ∀ k, k < L.length → L.getD k 0 < 2 ^ n
theorem hall_Check_spec (n : Int) (l : List Int) (hl : l.length ≤ 9223372036854775807) : Gets (hall_Check n l) (fun r => (r = 0 ∧ ∃ (m : Nat) (L : List Nat), n = (m : Int) ∧ l = cs L ∧ HOk m L) ∨ r ≠ 0) := by
  unfold hall_Check
  refine gIte (fun _ => gSome (.inr (by omega))) fun hn => ?_
  have hn' : 0 ≤ n ∧ n ≤ 8 := by omega
  obtain ⟨m, rfl⟩ := Int.eq_ofNat_of_zero_le hn'.1
  have hm : m ≤ 8 := by omega
  refine gBind (R := fun z => match z with | .inl _ => ∀ j, j < l.length → 0 ≤ l.getD j 0 ∧ l.getD j 0 < ((2 ^ m : Nat) : Int) | .inr r => r ≠ 0) (gFor l.length (fun k v => v = (k : Int) ∧ ∀ j, j < k → 0 ≤ l.getD j 0 ∧ l.getD j 0 < ((2 ^ m : Nat) : Int)) (Nat.zero_le _) ⟨rfl, fun j hj => absurd hj (by omega)⟩ ?_) ?_
  · rintro k _ hk ⟨rfl, hI⟩
    simp only [toNat_nat, shl_nat']
    refine gIte (fun h1 => gChk (by omega) (gChk (fun _ => by omega) (gIte (fun q => gSome (show (1 : Int) ≠ 0 by omega)) fun q => gSome ⟨by omega, by simp, fun j hj => ?_⟩))) fun h1 => gSome fun j hj => hI j (by omega)
    rcases Nat.lt_succ_iff_lt_or_eq.1 hj with c | c
    · exact hI j c
    · subst c; omega
  · rintro (u | r) hz
    · refine gIte (fun _ => gSome (.inr (by omega))) fun h8 => gSome (.inl ⟨rfl, m, l.map Int.toNat, rfl, cs_of fun k hk => (hz k hk).1, hm, by rw [List.length_map]; omega, fun k hk => ?_⟩)
      rw [List.length_map] at hk
      have := hz k hk
      have e : (l.map Int.toNat).getD k 0 = (l.getD k 0).toNat := by
        rw [List.getD_eq_getElem?_getD, List.getD_eq_getElem?_getD, List.getElem?_map, List.getElem?_eq_getElem hk]; rfl
      rw [e]; omega
    · exact gSome (.inr hz)
theorem HOk.check {m : Nat} {L : List Nat} (h : HOk m L) : hall_Check m (cs L) = some 0 := by
  have h256 := pow_le8 h.n8
  have hl := h.l8
  refine Gets.eq ?_
  unfold hall_Check
  refine gIte (fun q => (by have := h.n8; omega)) fun hn => ?_
  refine gBind (R := fun z => match z with | .inl _ => True | .inr r => False) (gFor L.length (fun k v => v = (k : Int)) (Nat.zero_le _) rfl ?_) ?_
  · rintro k _ hk rfl
    simp only [toNat_nat, shl_nat', cs_len, cs_get]
    refine gIte (fun h1 => gChk (by omega) (gChk (fun _ => by have := h.n8; omega) (gIte (fun q => ?_) fun q => gSome ⟨by omega, by simp⟩))) fun h1 => gSome trivial
    have := h.lt k (by omega)
    omega
  · rintro (u | r) hz
    · exact gIte (fun q => (by rw [cs_len] at q; omega)) fun _ => gSome rfl
    · exact hz.elim

theorem matched_spec {m : Nat} {L : List Nat} (h : HOk m L) : Gets (hall_matched m (cs L)) (fun r => MO m L L.length r.1 r.2) := by
  have hm := h.n8
  have hL := h.l8
  unfold hall_matched
  refine gChk (by omega) ?_
  simp only [toNat_nat]
  refine gBind (R := fun of => of.length = m ∧ ∀ x, x < m → of.getD x 0 = -1) (gFor m (fun k (x : List Int × Int) => x.2 = (k : Int) ∧ x.1.length = m ∧ ∀ y, y < k → x.1.getD y 0 = -1) (Nat.zero_le _) ⟨rfl, by simp, fun y hy => absurd hy (by omega)⟩ ?_) ?_
  · rintro k ⟨of, _⟩ hk ⟨rfl, hl, hI⟩
    simp only at hl hI
    simp only [toNat_nat, List.length_replicate]
    refine gIte (fun h1 => gChk (by omega) (gSome ⟨by omega, by simp, by simpa using hl, fun y hy => ?_⟩)) fun h1 => gSome ⟨hl, fun x hx => hI x (by omega)⟩
    show (of.set k (-1)).getD y 0 = -1
    rw [getD_set (by omega)]
    by_cases c : y = k
    · rw [if_pos c]
    · rw [if_neg c]; exact hI y (by omega)
  · rintro of0 ⟨hl0, hI0⟩
    have hz : ∀ v, occ m of0 v = 0 := fun v => by
      unfold occ
      rw [sumN_congr (h := fun _ => 0) fun x hx => by rw [hI0 x hx, if_neg (by omega)], sumN_zero]
    refine gBind (R := fun r => MO m L L.length r.1 r.2) (gFor L.length (fun k (x : List Int × Int × Int) => x.2.2 = (k : Int) ∧ MO m L k x.1 x.2.1) (Nat.zero_le _) ⟨rfl, ⟨hl0, fun x hx => .inl (hI0 x hx)⟩, fun v hv => absurd hv (by omega), fun v _ => hz v, rfl, fun _ => False, 0, Nat.pow_pos (by omega), fun v hv => absurd hv (by omega), fun v hv => hv.elim, fun x hx => by simp at hx⟩ ?_) fun r hr => gSome hr
    rintro k ⟨of, many, _⟩ hk ⟨rfl, hO⟩
    simp only at hO
    simp only [cs_len]
    refine gIte (fun h1 => ?_) fun h1 => gSome (by
      have : k = L.length := by omega
      subst this; exact hO)
    have hk' : k < L.length := by omega
    have hp2 : 0 < 2 ^ m := Nat.pow_pos (by omega)
    obtain ⟨hM, hone, hnone, hmany, D, S, hS, a, b, c⟩ := hO
    have hcl : Cls L of S := fun x hx => by
      obtain ⟨j, h1, h2⟩ := c x hx
      obtain ⟨h3, h4⟩ := b j h2
      exact ⟨j, by omega, h1, h4⟩
    refine gBind (hgrown_spec hm hL h.lt 12 of k 0 hM hk' hp2 (by rw [cnt_zero]; omega)) ?_
    rintro ⟨g, o2, sI⟩ ⟨hl2, s', e2, hsl, _, hr⟩
    simp only at hl2 e2 hr
    subst e2
    have hMl := hM.len
    dsimp only
    refine gChk (by omega) ?_
    have hbd := MO.bd (⟨hM, hone, hnone, hmany, D, S, hS, a, b, c⟩ : MO m L k of many)
    rcases hr with ⟨rfl, rfl, hk2, hcl2⟩ | ⟨rfl, hM2, _, hoc, hS2⟩
    · refine gIte (fun q => by cases q) fun _ => gSome ⟨by omega, by simp, hM, fun v hv => ?_, fun v hv => hnone v (by omega), ?_, fun v => D v ∨ v = k ∨ ∃ x, s'.testBit x = true ∧ o2.getD x 0 = (v : Int), S ||| s', or_lt hS hsl, fun v hv h0 => ?_, fun v hv => ?_, fun x hx => ?_⟩
      · rcases Nat.lt_succ_iff_lt_or_eq.1 hv with d | d
        · exact hone v d
        · subst d; exact .inl (hnone v (Nat.le_refl _))
      · show many = sumN (k + 1) fun v => occ m o2 v
        simp only [sumN]
        rw [hnone k (Nat.le_refl _), hmany]; omega
      · rcases Nat.lt_succ_iff_lt_or_eq.1 hv with d | d
        · exact .inl (a v d h0)
        · exact .inr (.inl d)
      · rcases hv with hv | rfl | ⟨x, h1, h2⟩
        · exact ⟨by have := (b v hv).1; omega, (b v hv).2.trans (inc_or_l _ _)⟩
        · exact ⟨by omega, hk2.trans (inc_or_r _ _)⟩
        · obtain ⟨j, q1, q2, q3⟩ := hcl2 x h1 (by simp)
          have : j = v := by omega
          subst this
          refine ⟨?_, q3.trans (inc_or_r _ _)⟩
          rcases Nat.lt_or_ge j k with d | d
          · omega
          · have := occ_pos (n := m) (bit_lt hsl h1) h2
            have := hnone j d
            omega
      · rw [Nat.testBit_or, Bool.or_eq_true] at hx
        rcases hx with hx | hx
        · obtain ⟨j, q1, q2⟩ := c x hx; exact ⟨j, q1, .inl q2⟩
        · obtain ⟨j, q1, q2, q3⟩ := hcl2 x hx (by simp); exact ⟨j, q2, .inr (.inr ⟨x, hx, q2⟩)⟩
    · refine gIte (fun _ => gChk (by omega) (gSome ⟨by omega, by simp, hM2, fun v hv => ?_, fun v hv => ?_, ?_, D, S, hS, fun v hv h0 => ?_, fun v hv => ⟨by have := (b v hv).1; omega, (b v hv).2⟩, fun x hx => ?_⟩)) fun q => absurd rfl q
      · rw [hoc]
        rcases Nat.lt_succ_iff_lt_or_eq.1 hv with d | d
        · rw [if_neg (by omega)]
          have := hone v d
          omega
        · rw [if_pos d, hnone v (by omega)]; exact .inr (by omega)
      · rw [hoc, hnone v (by omega), if_neg (by omega)]; rfl
      · show many + 1 = sumN (k + 1) fun v => occ m o2 v
        simp only [sumN]
        rw [hoc k, if_pos rfl, hnone k (Nat.le_refl _), sumN_congr (h := fun v => occ m of v) fun v hv => by rw [hoc, if_neg (by omega)]; omega, ← hmany]
        omega
      · rw [hoc] at h0
        rcases Nat.lt_succ_iff_lt_or_eq.1 hv with d | d
        · rw [if_neg (by omega)] at h0
          exact a v d (by omega)
        · rw [if_pos d, hnone v (by omega)] at h0; omega
      · rw [(hS2 S hcl).2 x hx]; exact c x hx
end Go.SH
