/-
  The law GreedySwap. Conditions: the list's length; numbers of 64 bits.
-/
import Derived.Test.YtcjhpcbipcdhiaaLGs
set_option linter.unusedSimpArgs false
set_option linter.unusedVariables false
namespace Go.SH
open Go Go.AX

theorem iand_sub (x : Int) (n : Nat) : ∃ y : Nat, iand x (n : Int) = (y : Int) ∧ Inc y n := by
  cases x with
  | ofNat a => exact ⟨a &&& n, rfl, inc_and_r a n⟩
  | negSucc a =>
    refine ⟨dif n a, ?_, inc_dif n a⟩
    show (Int.ofNat (n ^^^ (a &&& n)) : Int) = _
    unfold dif
    rw [Nat.and_comm]
    rfl
theorem PickG (k : Int) (n : Nat) (hn : 0 < n) (h1 : -9223372036854775808 ≤ k) (h2 : k ≤ 9223372036854775807) : Gets (rotaref_Pick k n) (fun r => ∃ a : Nat, r = a ∧ a < n) := by
  unfold rotaref_Pick
  have t : ∀ x : Int, 0 ≤ x → ∃ a : Nat, Int.tmod x n = a ∧ a < n := fun x hx => by
    have q1 := Int.tmod_nonneg (n : Int) hx
    have q2 := Int.tmod_lt_of_pos x (show (0 : Int) < n by omega)
    obtain ⟨a, ha⟩ := Int.eq_ofNat_of_zero_le q1
    exact ⟨a, ha, by omega⟩
  exact gIte (fun q => gChk (by omega) (gChk (by omega) (gSome (t _ (by omega))))) fun q => gChk (by omega) (gSome (t _ (by omega)))
theorem rotakeep_GreedySwap_law (n : Int) (l : List Int) (i k x : Int) (hl : l.length ≤ 9223372036854775807) (hi : -9223372036854775808 ≤ i ∧ i ≤ 9223372036854775807) (hk : -9223372036854775808 ≤ k ∧ k ≤ 9223372036854775807) : rotakeep_GreedySwap n l i k x = some true := by
  refine Gets.eq ?_
  unfold rotakeep_GreedySwap
  refine gBindE (show rotakeep_two = some (4, cs twoB) from rfl) ?_
  refine gBind (R := fun y => y.2 = 0 ∧ y.1 = 4) (Gets.mono (Swap_ok mat_two (a := 3) (b := 12) (x := 1) (by decide) (by decide) (by decide)) ?_) ?_
  · rintro r ⟨h1, y, h2, h3, h4, h5⟩
    refine ⟨h1, ?_⟩
    have c4 : Cnd 4 twoB 3 12 1 4 := ⟨by decide, by decide, by decide, by decide⟩
    have hle : y ≤ 4 := by
      rcases Nat.lt_or_ge 4 y with c | c
      · exact absurd c4 (h5 4 c)
      · exact c
    have hsz := h4.sz
    have hin := h4.inc
    have : y = 0 ∨ y = 1 ∨ y = 2 ∨ y = 3 ∨ y = 4 := by omega
    rcases this with rfl | rfl | rfl | rfl | rfl
    · exact absurd hsz (by decide)
    · exact absurd hin (by decide)
    · exact absurd hin (by decide)
    · exact absurd hin (by decide)
    · exact h2
  rintro ⟨_, _⟩ ⟨rfl, rfl⟩
  refine gIte (fun q => absurd q (by simp)) fun _ => gBind (axioms_Check_spec n l hl) ?_
  rintro e (⟨rfl, m, B, rfl, rfl, hM⟩ | ⟨he, _⟩)
  rotate_left
  · exact gIte (fun _ => gSome rfl) fun q => absurd he q
  have h8 := hM.m8
  have h256 := pow_le8 h8
  have hBl := hM.len
  have hpos : 0 < B.length := List.length_pos_iff.2 hM.ne
  refine gIte (fun q => absurd rfl q) fun _ => ?_
  simp only [cs_len]
  refine gBind (PickG i B.length hpos hi.1 hi.2) ?_
  rintro _ ⟨p, rfl, hp⟩
  refine gChk (by omega) (gBind (PickG k B.length hpos hk.1 hk.2) ?_)
  rintro _ ⟨q, rfl, hq⟩
  refine gChk (by omega) ?_
  simp only [toNat_nat, cs_get]
  have ha := mem_getD.2 ⟨p, hp, rfl⟩
  have hb := mem_getD.2 ⟨q, hq, rfl⟩
  generalize B.getD p 0 = a at ha
  generalize B.getD q 0 = b at hb
  have hal := hM.lt a ha
  have hbl := hM.lt b hb
  simp only [dif_nat]
  obtain ⟨z, hz, hzi⟩ := iand_sub x (dif a b)
  rw [hz]
  refine gBind (Swap_ok hM ha hb hzi) ?_
  rintro ⟨_, _⟩ ⟨rfl, y, rfl, hy, hc, _⟩
  rw [if_pos (by simp)]
  refine gBindE (rotaref_Within_nat y _) ?_
  rw [if_pos (by rintro (q | q); exact q rfl; exact q (decide_eq_true hc.inc))]
  simp only [dif_nat, or_nat]
  refine gBindE (slices_Contains_spec _ _ (by simp; omega)) ?_
  rw [if_pos (by rintro ((q | q) | q); exact q rfl; exact q (decide_eq_true hc.inc); exact q (decide_eq_true ((cs_mem _ _).2 hc.one)))]
  refine gBindE (slices_Contains_spec _ _ (by simp; omega)) (gIte (fun q => ?_) fun _ => ?_)
  · rcases q with ((q | q) | q) | q
    · exact absurd rfl q
    · exact absurd (decide_eq_true hc.inc) q
    · exact absurd (decide_eq_true ((cs_mem _ _).2 hc.one)) q
    · exact absurd (decide_eq_true ((cs_mem _ _).2 hc.two)) q
  refine gBind (Ladder_ok hM ha hb) ?_
  rintro ⟨_, _⟩ ⟨rfl, O, rfl, hL, hO⟩
  have hcm := cnt_le m (dif a b)
  have hszD : size (dif a b) = cnt m (dif a b) := size_of_lt (dif_lt hal) h8
  rw [if_pos (by simp)]
  refine gBindE (rotaref_Size_nat _) ?_
  simp only [cs_len, hO, hszD]
  have e1 : ((cnt m (dif a b) + 1 : Nat) : Int) - 1 = ((cnt m (dif a b) : Nat) : Int) := by omega
  have hlast := hL.lst
  rw [hO, Nat.add_sub_cancel] at hlast
  simp only [e1, toNat_nat, cs_get, hL.fst, hlast]
  refine gChk ⟨fun _ => by omega, fun _ => by omega, fun _ => by omega, fun _ => by omega⟩ (gIte (fun q => ?_) fun _ => ?_)
  · rcases q with ((q | q) | q) | q
    · first | exact absurd rfl q | exact absurd trivial q
    · exact absurd (by omega) q
    · first | exact absurd rfl q | exact absurd trivial q
    · first | exact absurd rfl q | exact absurd trivial q
  refine gBind (R := fun z => match z with | .inl _ => True | .inr r => False) (gFor (cnt m (dif a b) + 1) (fun k v => v = (k : Int)) (Nat.zero_le _) rfl ?_) ?_
  · rintro j _ hj rfl
    simp only [toNat_nat, cs_get]
    refine gIte (fun h3 => gChk (by omega) ?_) fun h3 => gSome trivial
    have hj' : j < O.length := by omega
    have hmem := hL.mem j hj'
    refine gBindE (slices_Contains_spec _ _ (by simp; omega)) ?_
    have hd : decide (((O.getD j 0 : Nat) : Int) ∈ cs B) = true := decide_eq_true ((cs_mem _ _).2 hmem)
    rw [hd]
    refine gChk ⟨fun _ => by omega, fun q => by omega⟩ ?_
    rcases Nat.eq_zero_or_pos j with rfl | hj0
    · rw [if_neg (by simp)]
      exact gBindE rfl (gIte (fun q => by rcases q with q | q; exact absurd rfl q; simp at q) fun _ => gSome ⟨by omega, by simp⟩)
    · obtain ⟨j, rfl⟩ : ∃ j', j = j' + 1 := ⟨j - 1, by omega⟩
      have e2 : ((j + 1 : Nat) : Int) - 1 = (j : Int) := by omega
      rw [if_pos ⟨by simp, by omega⟩]
      simp only [e2, toNat_nat, cs_get, dif_nat]
      have hs := hL.stp j hj'
      refine gBindE (rotaref_Size_nat _) (gIte (fun q => ?_) fun _ => gSome ⟨by omega, by simp⟩)
      rcases q with q | q
      · first | exact absurd rfl q | exact absurd trivial q
      · exact absurd (by omega) q.2
  rintro (u | rr) hz2
  rotate_left
  · exact hz2.elim
  refine gBind (axioms_Circuits_spec m (cs B) (by simp; omega)) ?_
  rintro ⟨_, _⟩ (⟨rfl, m', B', q1, q2, _, rfl⟩ | ⟨_, _, q⟩)
  rotate_left
  · exact absurd ⟨m, B, rfl, rfl, hM⟩ q
  have em : m' = m := by omega
  have eB : B' = B := cs_inj q2.symm
  subst em eB
  have hF : Fam m' ((List.range (2 ^ m')).filter fun s => Circ m' B' s) := filter_fam h8 _
  have hFl := hF.len
  refine gBind (R := fun z => match z with | .inl _ => True | .inr r => False) (gFor m' (fun k v => v = (k : Int)) (Nat.zero_le _) rfl ?_) ?_
  · rintro j _ hj rfl
    refine gIte (fun h3 => gBindE (rotaref_In_nat a j) ?_) fun h3 => gSome trivial
    have hj' : j < m' := by omega
    refine gIte (fun _ => gSome ⟨hj', by simp⟩) fun hb' => ?_
    have haj : a.testBit j = false := bool_ne hb'
    refine gBind (Fundamental_ok hM ha hj' haj) ?_
    rintro ⟨_, _⟩ ⟨rfl, C, rfl, hC, hCc, hCd⟩
    rw [if_pos (by simp)]
    have hin : decide ((C : Int) ∈ cs ((List.range (2 ^ m')).filter fun s => Circ m' B' s)) = true := decide_eq_true ((cs_mem _ _).2 (by rw [List.mem_filter, List.mem_range]; exact ⟨hC, decide_eq_true hCc⟩))
    refine gBindE (slices_Contains_spec _ _ (by simp only [cs_len]; omega)) (gChk (fun _ => by omega) ?_)
    simp only [dif_nat, hCd, toNat_nat, shl_nat']
    refine gIte (fun q => ?_) fun _ => gSome ⟨hj', by simp⟩
    rcases q with (q | q) | q
    · exact absurd rfl q
    · exact absurd hin q
    · first | exact absurd trivial q | exact absurd rfl q
  · rintro (u | rr) hz3
    · exact gSome rfl
    · exact hz3.elim
end Go.SH
