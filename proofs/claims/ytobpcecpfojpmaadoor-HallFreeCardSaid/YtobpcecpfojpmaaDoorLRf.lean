/-
  RADO: independent elements stand for sets just if no sets have too little rank; with all sets free it is HALL'S: the statement HallFree as a plain law. Conditions: lists are no longer than 2^63 - 1.
-/
import Derived.Test.YtobpcecpfojpmaaDoorLRe
import Derived.Test.YtobpcecpfojpmaaDoorSkHallFree
set_option linter.unusedSimpArgs false
set_option linter.unusedVariables false
namespace Go.SH
open Go Go.AX

theorem SameF (l : List Int) : rotalaw_Same_int l l = some true := by
  refine Gets.eq ?_
  unfold rotalaw_Same_int
  refine gIte (fun q => absurd rfl q) fun _ => ?_
  refine gBind (R := fun z => match z with | .inl _ => True | .inr r => False) (gFor l.length (fun k v => v = (k : Int)) (Nat.zero_le _) rfl ?_) ?_
  · rintro k _ hk rfl
    refine gIte (fun h1 => gChk (by omega) (gIte (fun q => absurd rfl q) fun _ => gSome ⟨by omega, by simp⟩)) fun h1 => gSome trivial
  · rintro (u | r) hz
    · exact gSome rfl
    · exact hz.elim
theorem ok13 : HOk 4 [1, 3] := ⟨by omega, by decide, by decide⟩
theorem two_uni : cs (uniL 4 2) = [3, 5, 6, 9, 10, 12] := by decide
theorem fst13 : Fst (rk 4 (uniL 4 2)) [1, 3] 0 0 [0, 1] := by
  have r0 : rk 4 (uniL 4 2) 0 = 0 := by decide
  have r1 : rk 4 (uniL 4 2) 1 = 1 := by decide
  have r3 : rk 4 (uniL 4 2) 3 = 2 := by decide
  have e1 : 0 ||| 2 ^ 0 = 1 := by decide
  have e3 : 1 ||| 2 ^ 1 = 3 := by decide
  refine ⟨by decide, by decide, by rw [e1, r0, r1]; omega, fun j hj => absurd hj (by omega), ?_⟩
  rw [e1]
  refine ⟨by decide, by decide, by rw [e3, r1, r3]; omega, fun j hj hb hr => ?_, rfl⟩
  have : j = 0 := by omega
  subst this
  have e : 1 ||| 2 ^ 0 = 1 := by decide
  rw [e] at hr
  exact absurd hr (Nat.lt_irrefl _)
theorem Rado13 : Gets (hall_Rado 4 [3, 5, 6, 9, 10, 12] [1, 3]) (fun y => y = ([0, 1], 0)) := by
  have h : Gets (hall_Rado ((4 : Nat) : Int) (cs (uniL 4 2)) (cs [1, 3])) (fun y => y = ([0, 1], 0)) := by
    refine (Rado_spec (uni_mat (by omega) (by omega)) ok13).mono fun r hr => ?_
    rcases hr with ⟨e, rfl, he⟩ | ⟨_, hn⟩
    · rw [he.unique fst13]; rfl
    · exact absurd ⟨_, fst13.ext⟩ hn
  rw [two_uni] at h
  exact h

theorem rotakeep_HallFree_law (n : Int) (b l : List Int) (hb : b.length ≤ 9223372036854775807) (hl : l.length ≤ 9223372036854775807) : rotakeep_HallFree n b l = some true := by
  refine Gets.eq ?_
  unfold rotakeep_HallFree
  refine gBindE (show rotakeep_two = some (4, [3, 5, 6, 9, 10, 12]) from rfl) (gBind Rado13 ?_)
  rintro _ rfl
  refine gIte (fun _ => ?_) fun q => absurd (by simp) q
  refine gBindE (SameF _) (gIte (fun q => absurd rfl q) fun _ => ?_)
  obtain ⟨c, hc, hs⟩ := axioms_Check_spec n b hb
  rcases hs with ⟨rfl, m, B, rfl, rfl, hM⟩ | ⟨h0, _⟩
  rotate_left
  · have e1 : hall_Rado n b l = some ([], c) := by unfold hall_Rado; rw [hc, Option.bind_some, if_pos h0]
    have e2 : hall_RadoBar n b l = some (0, c) := by unfold hall_RadoBar; rw [hc, Option.bind_some, if_pos h0]
    exact gBindE e1 (gBindE e2 (gIte (fun _ => gSome (by simp)) fun q => absurd ⟨h0, axioms_Check_ne5 hc⟩ q))
  obtain ⟨c', hc', hs'⟩ := hall_Check_spec m l hl
  rcases hs' with ⟨rfl, m', L, hm', rfl, h⟩ | h0
  rotate_left
  · have e1 : hall_Rado m (cs B) l = some ([], c') := by unfold hall_Rado; rw [hM.check, Option.bind_some, if_neg (by simp), hc', Option.bind_some, if_pos h0]
    have e2 : hall_RadoBar m (cs B) l = some (0, c') := by unfold hall_RadoBar; rw [hM.check, Option.bind_some, if_neg (by simp), hc', Option.bind_some, if_pos h0]
    exact gBindE e1 (gBindE e2 (gIte (fun _ => gSome (by simp)) fun q => absurd ⟨h0, hall_Check_ne5 hc'⟩ q))
  obtain rfl : m = m' := by omega
  have hm8 := h.n8
  have hl8 := h.l8
  have hp8 := pow_le8 hm8
  have hR := hM.rkF
  refine gBind (Rado_spec hM h) fun y3 hy3 => gBind (RadoBar_spec hM h) fun y4 hy4 => ?_
  -- what it tells of the search
  have hA : ∃ e : List Nat, y3.1 = cs e ∧ ((y3.2 = 0 ∧ Fst (rk m B) L 0 0 e) ∨ (y3.2 = 5 ∧ e = [] ∧ ¬ ∃ e, Ext (rk m B) L 0 0 e)) := by
    rcases hy3 with ⟨e, rfl, he⟩ | ⟨rfl, hn⟩
    · exact ⟨e, rfl, .inl ⟨rfl, he⟩⟩
    · exact ⟨[], rfl, .inr ⟨rfl, rfl, hn⟩⟩
  obtain ⟨e, he, hA⟩ := hA
  refine gIte (fun q => ?_) fun _ => gIte (fun q => ?_) fun _ => ?_
  · rcases hA with ⟨z, _⟩ | ⟨z, _⟩
    · exact absurd z q.1
    · exact absurd z q.2
  · exfalso
    rcases hA with ⟨z, hF⟩ | ⟨z, _, hn⟩
    · have := q.1 z
      rcases hy4 with ⟨_, s, s1, s2⟩ | ⟨w, _⟩
      · have := hF.ext.cond hR h s s1; omega
      · omega
    · rcases hy4 with ⟨w, _⟩ | ⟨_, w⟩
      · have := q.2 w; omega
      · exact hn (rado hR h w)
  refine gBindE (axioms_Ranks_ok hM) ?_
  rw [he]
  have hbit : ∀ k, k < e.length → (L.getD k 0).testBit (e.getD k 0) = true ∧ (pre e k).testBit (e.getD k 0) = false ∧ e.length = L.length := fun k hk => by
    rcases hA with ⟨_, hF⟩ | ⟨_, z, _⟩
    · have h1 := hF.ext.idx hR h k hk
      have h2 := hF.ext.new k hk
      have h3 := hF.ext.len
      rw [Nat.zero_add] at h1 h3
      rw [Nat.zero_or] at h2
      exact ⟨h1, h2, h3⟩
    · rw [z] at hk; simp at hk
  have hU : pre e e.length < 2 ^ m ∧ rk m B (pre e e.length) = cnt m (pre e e.length) := by
    rcases hA with ⟨_, hF⟩ | ⟨_, z, _⟩
    · have hlt : pre e e.length < 2 ^ m := lt_of_bits fun i hi => by
        cases q : (pre e e.length).testBit i with
        | false => rfl
        | true =>
          obtain ⟨j, j1, j2⟩ := (pre_bit e _ i).1 q
          obtain ⟨a, _, b⟩ := hbit j j1
          have := bit_lt (h.lt j (by omega)) a
          omega
      have := (hF.ext.free hR h (Nat.pow_pos (by omega)) (by rw [hR.zero, cnt_zero])).1
      rw [Nat.zero_or] at this
      exact ⟨hlt, this⟩
    · rw [z]
      exact ⟨Nat.pow_pos (by omega), by show rk m B 0 = cnt m 0; rw [hR.zero, cnt_zero]⟩
  refine gBind (R := fun z => match z with | .inl v => v = ((pre e e.length : Nat) : Int) | .inr r => False) (gFor e.length (fun k (x : Int × Int) => x.2 = (k : Int) ∧ x.1 = ((pre e k : Nat) : Int)) (Nat.zero_le _) ⟨rfl, rfl⟩ ?_) ?_
  · rintro k ⟨_, _⟩ hk ⟨rfl, rfl⟩
    dsimp only
    simp only [cs_len, cs_get, toNat_nat]
    refine gIte (fun h1 => ?_) fun h1 => gSome (by
      have : k = e.length := by omega
      rw [this])
    have hk' : k < e.length := by omega
    obtain ⟨b1, b2, b3⟩ := hbit k hk'
    have hob := bit_lt (h.lt k (by omega)) b1
    refine gChk (by omega) (gChk (by omega) ?_)
    rw [rotaref_In_nat, Option.bind_some, b1]
    refine gBindE (show _ = some false by rw [if_pos (by simp), rotaref_In_nat, b2]) ?_
    refine gIte (fun q => absurd q (by simp)) fun _ => gChk (by omega) (gSome ⟨hk', by simp, ?_⟩)
    rw [shl_nat', or_nat, pre]
  rintro (v | r) hz
  rotate_left
  · exact hz.elim
  dsimp only at hz ⊢
  subst hz
  simp only [toNat_nat, cs_len, cs_get]
  refine gChk (by rw [rkL_len]; have := hU.1; omega) (gBindE (rotaref_Size_nat _) ?_)
  rw [size_of_lt hU.1 hm8]
  refine gIte (fun q => absurd (by rw [rkL_get m B hU.1, hU.2]) q) fun _ => ?_
  refine gBindE (Uniform_ok hm8 (Nat.le_refl m)) ?_
  dsimp only
  refine gBind (Rado_spec (uni_mat hm8 (Nat.le_refl m)) h) fun y10 hy10 => gBind (Stand_first h) fun y11 hy11 => ?_
  have h0 : 0 < 2 ^ m := Nat.pow_pos (by omega)
  have heq : y10 = y11 := by
    rcases hy10 with ⟨f, rfl, hf⟩ | ⟨rfl, hn⟩
    · have hf' := hf.congr h.lt (fun s hs => uni_rk hm8 hs) h0
      rcases hy11 with ⟨_, hnF⟩ | ⟨_, out, rfl, ho⟩
      · exact absurd (full_of_ext h hf'.ext) hnF
      · rw [hf'.unique ho]
    · rcases hy11 with ⟨rfl, _⟩ | ⟨_, out, rfl, ho⟩
      · rfl
      · exact absurd ⟨out, ho.ext.congr h.lt (fun s hs => (uni_rk hm8 hs).symm) h0⟩ hn
  rw [heq]
  refine gBindE (show _ = some true by rw [if_pos rfl, SameF]) (gSome (by simp))
end Go.SH
