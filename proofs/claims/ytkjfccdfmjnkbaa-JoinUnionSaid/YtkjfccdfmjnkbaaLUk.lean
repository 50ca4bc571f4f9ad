/-
  The law JoinUnion: a union is a matroid, whichever comes first; with itself so often it has all elements as its basis just if so many sets cover them. Conditions: none.
-/
import Derived.Test.YtkjfccdfmjnkbaaLUj
import Derived.Test.YtkjfccdfmjnkbaaLCw
import Derived.Test.YtkjfccdfmjnkbaaSprotalaw
import Derived.Test.YtkjfccdfmjnkbaaSkJoinUnion
set_option linter.unusedSimpArgs false
set_option linter.unusedVariables false
namespace Go.SH
open Go Go.AX

theorem SameBJ (l : List Int) : rotalaw_Same_int l l = some true := by
  refine Gets.eq ?_
  unfold rotalaw_Same_int
  refine gIte (fun q => absurd rfl q) fun _ => gBind (R := fun z => match z with | .inl _ => True | .inr r => False) (gFor l.length (fun k v => v = (k : Int)) (Nat.zero_le _) rfl ?_) ?_
  · rintro k _ hk rfl
    exact gIte (fun h1 => gChk (by omega) (gIte (fun q => absurd rfl q) fun _ => gSome ⟨by omega, by simp⟩)) fun _ => gSome trivial
  · rintro (u | rr) hz
    · exact gSome rfl
    · exact hz.elim
theorem SameMJ (n : Int) (l : List Int) : rotalaw_SameMatroid n l n l = some true := by
  refine Gets.eq ?_
  unfold rotalaw_SameMatroid
  refine gBindE (a := true) (by rw [if_pos rfl]; exact SameBJ l) (gSome (by simp))
theorem Union_bad {n n' : Int} {l l' : List Int} (hl : l.length ≤ 9223372036854775807) (hl' : l'.length ≤ 9223372036854775807) (hbad : ¬ ∃ m A B, n = ((m : Nat) : Int) ∧ n' = (m : Int) ∧ l = cs A ∧ l' = cs B ∧ Mat m A ∧ Mat m B) : Gets (join_Union n l n' l') (fun r => r.2.2 ≠ 0 ∧ r.1 = 0) := by
  unfold join_Union
  refine gBind (axioms_Check_spec n l hl) fun y hy => gBind (axioms_Check_spec n' l' hl') fun z hz => ?_
  refine gIte (fun q => gSome ⟨q, rfl⟩) fun q => gIte (fun q2 => gSome ⟨q2, rfl⟩) fun q2 => gIte (fun q3 => gSome ⟨by simp, rfl⟩) fun q3 => ?_
  rcases hy with ⟨_, m, A, rfl, rfl, hA⟩ | ⟨hy, _⟩
  · rcases hz with ⟨_, m', B, rfl, rfl, hB⟩ | ⟨hz, _⟩
    · have e : m = m' := by omega
      subst e
      exact absurd ⟨m, A, B, rfl, rfl, rfl, rfl, hA, hB⟩ hbad
    · exact absurd hz q2
  · exact absurd hy q
theorem union_two2 : join_Union 4 (cs twoB) 4 (cs twoB) = some (4, [15], 0) := by
  obtain ⟨K, best, e, hK, hL⟩ := Union_ok mat_two mat_two
  have e' : join_Union 4 (cs twoB) 4 (cs twoB) = some (4, cs K, 0) := e
  rw [e']
  have h15 : ∃ a b, a ∈ twoB ∧ b ∈ twoB ∧ (15 : Nat) = a ||| b := ⟨3, 12, by decide, by decide, by decide⟩
  have c15 : cnt 4 15 = 4 := by decide
  have hle := hL.le 15 h15
  obtain ⟨t, ht⟩ := hL.some h15
  have ht' := (hL.mem t).1 ht
  have hb : best = 4 := by have := cnt_le 4 t; omega
  have hK1 : K = [15] := by
    refine hK.ext (n := 4) ⟨by omega, by decide, fun i j h1 h2 => by simp at h2; omega⟩ fun s => ?_
    rw [hL.mem, List.mem_singleton]
    constructor
    · rintro ⟨⟨a, b, ha, hb', rfl⟩, h2⟩
      have hl := or_lt (mat_two.lt a ha) (mat_two.lt b hb')
      exact inc_eq_of_cnt (m := 4) (b := 15) (fun i hi => by
        have : (15 : Nat) = 2 ^ 4 - 1 := rfl
        rw [this, full_bit, decide_eq_true_eq]; exact bit_lt hl hi) (by omega) (by omega)
    · rintro rfl
      exact ⟨h15, by omega⟩
  rw [hK1]; rfl

theorem rotakeep_JoinUnion_law (n : Int) (l : List Int) (n' : Int) (l' : List Int) (hl : l.length ≤ 9223372036854775807) (hl' : l'.length ≤ 9223372036854775807) : rotakeep_JoinUnion n l n' l' = some true := by
  refine Gets.eq ?_
  unfold rotakeep_JoinUnion
  refine gBindE two_eq (gBindE two_eq (gBindE union_two2 (gIte (fun _ => gBindE (SameBJ _) (gIte (fun q => absurd rfl q) fun _ => ?_)) fun q => absurd (by simp) q)))
  rcases Classical.em (∃ m A B, n = ((m : Nat) : Int) ∧ n' = (m : Int) ∧ l = cs A ∧ l' = cs B ∧ Mat m A ∧ Mat m B) with ⟨m, A, B, rfl, rfl, rfl, rfl, hA, hB⟩ | hbad
  rotate_left
  · have hbad' : ¬ ∃ m A B, n' = ((m : Nat) : Int) ∧ n = (m : Int) ∧ l' = cs A ∧ l = cs B ∧ Mat m A ∧ Mat m B := fun ⟨m, A, B, h1, h2, h3, h4, h5, h6⟩ => hbad ⟨m, B, A, h2, h1, h4, h3, h6, h5⟩
    refine gBind (Union_bad hl hl' hbad) fun r hr => gBind (Union_bad hl' hl hbad') fun r' hr' => ?_
    exact gIte (fun _ => gSome (decide_eq_true ⟨hr.2, hr'.2⟩)) fun q => absurd hr.1 q
  have h8 := hA.m8
  have h256 := pow_le8 h8
  have hpos : 0 < 2 ^ m := Nat.pow_pos (by omega)
  obtain ⟨K, best, hu, hK, hL⟩ := Union_ok hA hB
  obtain ⟨K', best', hu', hK', hL'⟩ := Union_ok hB hA
  have hL2 : Largest m (fun s => ∃ a b, a ∈ A ∧ b ∈ B ∧ s = a ||| b) best' K' := hL'.congr fun s => by
    constructor
    · rintro ⟨a, b, h1, h2, rfl⟩; exact ⟨b, a, h2, h1, Nat.or_comm ..⟩
    · rintro ⟨a, b, h1, h2, rfl⟩; exact ⟨b, a, h2, h1, Nat.or_comm ..⟩
  have hbb : best = best' := by
    obtain ⟨a, ha⟩ := hA.exists_basis
    obtain ⟨b, hb⟩ := hB.exists_basis
    obtain ⟨t, ht⟩ := hL.some ⟨a, b, ha, hb, rfl⟩
    obtain ⟨t', ht'⟩ := hL2.some ⟨a, b, ha, hb, rfl⟩
    obtain ⟨p1, p2⟩ := (hL.mem t).1 ht
    obtain ⟨q1, q2⟩ := (hL2.mem t').1 ht'
    have := hL.le t' q1
    have := hL2.le t p1
    omega
  have hKK : K = K' := hK.ext hK' fun s => by rw [hL.mem, hL2.mem, hbb]
  subst hKK
  obtain ⟨hM, _⟩ := union_mat hA hB hK hL
  refine gBindE hu (gBindE hu' (gIte (fun q => absurd rfl q) fun _ => ?_))
  refine gBindE (a := true) (by rw [if_pos (by simp)]; exact SameMJ _ _) ?_
  refine gBindE (a := 0) (by rw [if_pos (by simp)]; exact hM.check) ?_
  refine gIte (fun q => absurd q (by simp)) fun _ => ?_
  obtain ⟨y8, e8, hC⟩ := Cover_spec hA
  refine gBindE e8 ?_
  rcases hC with ⟨rfl, _⟩ | ⟨P, rfl, hn, p1, p2, p3⟩
  · exact gIte (fun _ => gSome rfl) fun q => absurd (by simp) q
  refine gIte (fun _ => gSome rfl) fun hm0 => ?_
  have hm0' : m ≠ 0 := fun e => hm0 (.inr (by simp [e]))
  have hfl := full_lt m
  simp only [cs_len]
  refine gBind (R := fun z => match z with | .inl _ => True | .inr r => False) (gFor (P.length + 1) (fun k (x : Int × List Int × Int) => x.2.2 = (k : Int) ∧ 0 < k ∧ ∃ N, x.1 = (m : Int) ∧ x.2.1 = cs N ∧ FoldU m A k N) (k0 := 1) (by omega) ⟨rfl, by omega, A, rfl, rfl, FoldU.one hA⟩ ?_) ?_
  · rintro k ⟨_, _, _⟩ hk ⟨rfl, hk0, N, rfl, rfl, hF⟩
    simp only [cs_len, cs_get]
    refine gIte (fun h1 => ?_) fun _ => gSome trivial
    have hN := hF.1
    have hNp : 0 < N.length := List.length_pos_iff.2 hN.ne
    refine gChk (fun _ => hNp) ?_
    rw [if_pos (by omega)]
    refine gBindE (rotaref_All_nat h8) ?_
    have hcv : N.getD 0 0 = 2 ^ m - 1 ↔ k = P.length := by
      rw [hF.full]
      constructor
      · intro hc
        rcases Nat.lt_or_ge k P.length with c | c
        · exact absurd hc (p3 k c)
        · omega
      · rintro rfl
        exact Parts.cv (by omega) p1
    refine gIte (fun q => ?_) fun _ => ?_
    · rcases q with q | q
      · omega
      · refine absurd ?_ q
        constructor
        · intro e
          have := hcv.1 (by omega)
          omega
        · intro e
          have := hcv.2 (by omega)
          rw [this]
    · obtain ⟨N', b', e', hN', hL'⟩ := Union_ok hN hA
      refine gBindE e' (gIte (fun q => absurd rfl q) fun _ => gChk (by omega) (gSome ⟨by omega, by simp, by omega, N', rfl, rfl, ?_⟩))
      obtain ⟨u1, u2⟩ := union_mat hN hA hN' hL'
      exact FoldU.next hA hF u1 u2
  · rintro (uu | rr) hz
    · exact gSome rfl
    · exact hz.elim
end Go.SH
