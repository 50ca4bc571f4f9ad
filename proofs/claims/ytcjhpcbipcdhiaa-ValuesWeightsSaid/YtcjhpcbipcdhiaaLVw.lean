/-
  The law ValuesWeights: the climb ends at a heaviest basis. Conditions: none.
-/
import Derived.Test.YtcjhpcbipcdhiaaLVz
import Derived.Test.YtcjhpcbipcdhiaaLGa
import Derived.Test.YtcjhpcbipcdhiaaSkValuesWeights
set_option linter.unusedSimpArgs false
set_option linter.unusedVariables false
namespace Go.SH
open Go Go.AX

theorem worth_ok {m : Nat} (h8 : m ≤ 8) {w : List Int} (hW : WOk m w) {s : Nat} (hs : s < 2 ^ m) : values_worth s 0 w = some (wsum m (wf w) s) := by
  refine Gets.eq ?_
  unfold values_worth
  have hl := hW.1
  refine gBind (R := fun o => o = wsum m (wf w) s) (gFor m (fun k (x : Int × Int) => x.2 = (k : Int) ∧ x.1 = sumN k fun i => if s.testBit i = true then wf w i else 0) (Nat.zero_le _) ⟨rfl, rfl⟩ ?_) fun o ho => gSome ho
  rintro k ⟨_, _⟩ hk ⟨rfl, rfl⟩
  simp only [toNat_nat, shl_nat', bitB]
  refine gIte (fun h4 => gChk (by omega) ?_) fun h4 => gSome (by have e : k = m := by omega
                                                                 subst e; rfl)
  have hk' : k < m := by omega
  have e1 : w.getD k 0 * (if s.testBit k = true then (1 : Int) else 0) = if s.testBit k = true then wf w k else 0 := by
    cases s.testBit k <;> simp [wf]
  have b := hW.2 k hk'
  have b2 := sumN_abs8 (n := k) (c := 1000) (g := fun i => if s.testBit i = true then wf w i else 0) (by omega) fun i hi => by
    have := hW.2 i (by omega)
    split <;> omega
  have b3 : -1000 ≤ (if s.testBit k = true then wf w k else 0) ∧ (if s.testBit k = true then wf w k else 0) ≤ 1000 := by split <;> omega
  simp only [e1]
  exact gChk (by omega) (gSome ⟨hk', by simp, rfl⟩)
theorem wsum_b {m : Nat} (h8 : m ≤ 8) {w : List Int} (hW : WOk m w) (s : Nat) : -8000 ≤ wsum m (wf w) s ∧ wsum m (wf w) s ≤ 8000 := by
  have := sumN_abs8 (n := m) (c := 1000) (g := fun i => if s.testBit i = true then wf w i else 0) h8 fun i hi => by
    have := hW.2 i hi
    split <;> omega
  unfold wsum
  omega
theorem wsum_dif {m i : Nat} {g : Nat → Int} {s : Nat} (hi : i < m) (h : s.testBit i = true) : wsum m g (dif s (2 ^ i)) = wsum m g s - g i := by
  have h1 : (dif s (2 ^ i)).testBit i = false := by rw [testBit_dif, testBit_pow]; simp
  have h2 := wsum_add (g := g) hi h1
  have e : dif s (2 ^ i) ||| 2 ^ i = s := Nat.eq_of_testBit_eq fun j => by
    rw [Nat.testBit_or, testBit_dif, testBit_pow]
    by_cases c : i = j
    · subst c; simp [h]
    · simp [c]
  rw [e] at h2
  omega
theorem wsum_swap {m x y : Nat} {g : Nat → Int} {s : Nat} (hx : x < m) (hy : y < m) (h1 : s.testBit x = true) (h2 : s.testBit y = false) : wsum m g (dif s (2 ^ x) ||| 2 ^ y) = wsum m g s - g x + g y := by
  rw [wsum_add hy (by rw [testBit_dif, h2]; rfl), wsum_dif hx h1]
/-- What is best near by is best. -/
theorem local_best {m : Nat} {B : List Nat} (h : Mat m B) (g : Nat → Int) {v : Nat} (hv : v ∈ B) (hl : ∀ b, b ∈ B → size (dif b v) = 1 → wsum m g b ≤ wsum m g v) : ∀ n b, b ∈ B → cnt m (dif b v) ≤ n → wsum m g b ≤ wsum m g v := by
  have h8 := h.m8
  intro n
  induction n with
  | zero =>
    intro b hb hn
    have hbl := h.lt b hb
    have : b = v := by
      refine inc_eq_of_cnt (fun i hi => ?_) (h.lt v hv) (Nat.le_of_eq (h.eqc v hv b hb))
      cases q : v.testBit i
      · have h2 : (dif b v).testBit i = true := by rw [testBit_dif, hi, q]; rfl
        have := cnt_pos (dif_lt hbl) h2
        omega
      · rfl
    rw [this]; exact Int.le_refl _
  | succ n ih =>
    intro b hb hn
    have hbl := h.lt b hb
    have hvl := h.lt v hv
    rcases Classical.em (Inc v b) with q | q
    · rw [inc_eq_of_cnt q hbl (Nat.le_of_eq (h.eqc b hb v hv))]; exact Int.le_refl _
    obtain ⟨x, x1, x2⟩ := not_inc q
    obtain ⟨y, y1, y2, y3, y4⟩ := h.symx hv hb x1 x2
    have hx := bit_lt hvl x1
    have hy := bit_lt hbl y1
    have e1 : dif (dif v (2 ^ x) ||| 2 ^ y) v = 2 ^ y := Nat.eq_of_testBit_eq fun j => by
      rw [testBit_dif, Nat.testBit_or, testBit_dif, testBit_pow, testBit_pow]
      by_cases c : y = j
      · subst c; simp [y2]
      · cases v.testBit j <;> simp [c]
    have h1 := hl _ y3 (by rw [e1]; exact size_powV (by omega))
    rw [wsum_swap hx hy x1 y2] at h1
    have e2 : dif (dif b (2 ^ y) ||| 2 ^ x) v = dif (dif b v) (2 ^ y) := Nat.eq_of_testBit_eq fun j => by
      rw [testBit_dif, Nat.testBit_or, testBit_dif, testBit_dif, testBit_dif, testBit_pow, testBit_pow]
      by_cases c : x = j
      · subst c; simp [x1]
      · simp [c]; cases b.testBit j <;> cases v.testBit j <;> simp
    have h3 : (dif b v).testBit y = true := by rw [testBit_dif, y1, y2]; rfl
    have h4 := cnt_dif (dif_lt hbl) h3
    have h2 := ih _ y4 (by rw [e2]; omega)
    rw [wsum_swap hy hx y1 x2] at h2
    omega
theorem values_size_nat {a : Nat} (h : a < 256) : values_size (a : Int) = some ((size a : Nat) : Int) := by
  unfold values_size
  rw [chk_pos (by omega)]
  simp [bits_OnesCount, oc_size h]

theorem vBest_spec {m : Nat} {B : List Nat} (h : Mat m B) {w : List Int} (hp : values_prices m w = some 0) (hW : WOk m w) :
    Gets (values_Best m (vcs (zB B)) w) (fun r => r.2.2 = 0 ∧ (∀ b, b ∈ B → wsum m (wf w) b ≤ r.2.1) ∧ ∃ b : Nat, b ∈ B ∧ r.1 = (b : Int) ∧ r.2.1 = wsum m (wf w) b) := by
  have hlen := h.len
  have h8 := h.m8
  have h256 := pow_le8 h8
  have hne : 0 < B.length := by
    rcases Nat.eq_zero_or_pos B.length with c | c
    · exact absurd (List.length_eq_zero_iff.1 c) h.ne
    · exact c
  have hwb := wsum_b h8 hW
  unfold values_Best
  refine gBindE (values_Check_zero h) (gIte (fun q => absurd rfl q) fun _ => gBindE hp (gIte (fun q => absurd rfl q) fun _ => gChk (by simpa using hne) ?_))
  have e0 := vz_get B 0
  rw [e0]
  refine gBind (R := fun o => ∃ v : Nat, o = ((v : Int), 0) ∧ v ∈ B ∧ ∀ b, b ∈ B → size (dif b v) = 1 → wsum m (wf w) b ≤ wsum m (wf w) v)
    (gLoop (fun (x : Int × Int × Bool) => ∃ v : Nat, x.1 = (v : Int) ∧ x.2.1 = 0 ∧ v ∈ B ∧ (x.2.2 = false → ∀ b, b ∈ B → size (dif b v) = 1 → wsum m (wf w) b ≤ wsum m (wf w) v))
      (fun x => 2 * ((8000 - wsum m (wf w) x.1.toNat).toNat * 257 + x.1.toNat) + (if x.2.2 = true then 1 else 0)) ⟨_, rfl, rfl, mem_getD.2 ⟨0, hne, rfl⟩, fun q => by simp at q⟩ ?_) ?_
  · rintro ⟨_, _, f⟩ ⟨v, e1, e2, hv, hf⟩
    simp only at e1 e2 hf
    subst e1 e2
    have hvl := h.lt v hv
    refine gIte (fun q => ?_) fun q => gSome ⟨v, rfl, hv, hf (by simpa using q)⟩
    refine gBind (R := fun o => (∃ b : Nat, o = ((b : Int), 0, true) ∧ b ∈ B ∧ (wsum m (wf w) v < wsum m (wf w) b ∨ (wsum m (wf w) b = wsum m (wf w) v ∧ b < v))) ∨ (o = ((v : Int), 0, false) ∧ ∀ b, b ∈ B → size (dif b v) = 1 → wsum m (wf w) b ≤ wsum m (wf w) v))
      (gFor B.length (fun k x => x = (k : Int) ∧ ∀ j, j < k → size (dif (B.getD j 0) v) = 1 → wsum m (wf w) (B.getD j 0) ≤ wsum m (wf w) v) (Nat.zero_le _) ⟨rfl, none_all⟩ ?_) ?_
    · rintro k _ hk ⟨rfl, hb⟩
      simp only [vcs_len, zB_len, vz_get, toNat_nat]
      refine gIte (fun q1 => gChk (by omega) ?_) fun q1 => gSome (.inr ⟨rfl, fun b hb2 hs => ?_⟩)
      rotate_left
      · obtain ⟨j, j1, rfl⟩ := mem_getD.1 hb2
        exact hb j (by omega) hs
      have hk' : k < B.length := by omega
      have hB : B.getD k 0 ∈ B := mem_getD.2 ⟨k, hk', rfl⟩
      have hBl := h.lt _ hB
      have hdl : dif (B.getD k 0) v < 256 := dif_lt (n := 8) (by omega)
      rw [dif_nat, values_size_nat hdl, worth_ok h8 hW hBl, worth_ok h8 hW hvl]
      simp only [Option.bind_some]
      by_cases c : size (dif (B.getD k 0) v) = 1
      · have c' : ((size (dif (B.getD k 0) v) : Nat) : Int) = 1 := by omega
        simp only [c', if_true, Option.bind_some, true_and]
        by_cases c2 : wsum m (wf w) v < wsum m (wf w) (B.getD k 0)
        · refine gBindE (a := 0) (by rw [if_neg (fun z => z c2)]) (gBindE (a := 0) (by rw [if_neg (fun z => z c2)]) ?_)
          exact gIte (fun _ => gSome (.inl ⟨_, rfl, hB, .inl c2⟩)) fun z => absurd (.inl c2) z
        · refine gBindE (a := wsum m (wf w) (B.getD k 0)) (by rw [if_pos c2]) (gBindE (a := wsum m (wf w) v) (by rw [if_pos c2]) ?_)
          refine gIte (fun z => gSome (.inl ⟨_, rfl, hB, ?_⟩)) fun z => gSome ⟨hk', by simp, step_all hb fun _ => by omega⟩
          rcases z with z | ⟨z1, z2⟩
          · exact .inl z
          · exact .inr ⟨z1, by omega⟩
      · have c' : ¬ ((size (dif (B.getD k 0) v) : Nat) : Int) = 1 := by omega
        simp only [c', if_false, Option.bind_some, false_and]
        exact gSome ⟨hk', by simp, step_all hb fun z => absurd z c⟩
    · rintro _ (⟨b, rfl, hb, hlt⟩ | ⟨rfl, hl⟩)
      · refine gSome ⟨⟨b, rfl, rfl, hb, fun z => by simp at z⟩, ?_⟩
        have w1 := hwb v
        have w2 := hwb b
        have b1 := h.lt b hb
        simp only [toNat_nat, q, if_true]
        rcases hlt with hlt | ⟨h1, h2⟩
        · have : (8000 - wsum m (wf w) b).toNat + 1 ≤ (8000 - wsum m (wf w) v).toNat := by omega
          have := Nat.mul_le_mul_right 257 this
          omega
        · rw [h1]; omega
      · refine gSome ⟨⟨v, rfl, rfl, hv, fun _ => hl⟩, ?_⟩
        simp only [toNat_nat, q, if_true]
        simp
  · rintro _ ⟨v, rfl, hv, hl⟩
    have hvl := h.lt v hv
    have hbest : ∀ b, b ∈ B → wsum m (wf w) b ≤ wsum m (wf w) v := fun b hb => local_best h (wf w) hv hl _ b hb (Nat.le_refl _)
    refine gBind (R := fun z => match z with | .inl _ => False | .inr r => r.2.2 = 0 ∧ r.2.1 = wsum m (wf w) v ∧ ∃ b : Nat, b ∈ B ∧ r.1 = (b : Int) ∧ r.2.1 = wsum m (wf w) b)
      (gFor B.length (fun k x => x = (k : Int) ∧ ∀ j, j < k → B.getD j 0 ≠ v) (Nat.zero_le _) ⟨rfl, none_all⟩ ?_) ?_
    · rintro k _ hk ⟨rfl, hb⟩
      simp only [vcs_len, zB_len, vz_get, toNat_nat]
      refine gIte (fun q1 => gChk (by omega) ?_) fun q1 => gSome ?_
      · have hk' : k < B.length := by omega
        have hB : B.getD k 0 ∈ B := mem_getD.2 ⟨k, hk', rfl⟩
        have hBl := h.lt _ hB
        rw [worth_ok h8 hW hBl, worth_ok h8 hW hvl]
        simp only [Option.bind_some]
        refine gIte (fun z => gSome ⟨rfl, z, _, hB, rfl, rfl⟩) fun z => gSome ⟨hk', by simp, step_all hb fun e => z (by rw [e])⟩
      · obtain ⟨j, j1, e⟩ := mem_getD.1 hv
        exact hb j (by omega) e
    · rintro (u | rr) hz
      · exact hz.elim
      · exact gSome ⟨hz.1, fun b hb => by rw [hz.2.1]; exact hbest b hb, hz.2.2⟩

theorem mat1 : Mat 1 [1] := by
  refine ⟨⟨by omega, fun s hs => ?_, fun i j hij hj => ?_⟩, by simp, fun a ha b hb => ?_, fun a ha b hb x h1 h2 => ?_⟩
  · have := List.mem_singleton.1 hs; omega
  · simp at hj; omega
  · rw [List.mem_singleton.1 ha, List.mem_singleton.1 hb]
  · rw [List.mem_singleton.1 ha] at h1; rw [List.mem_singleton.1 hb, h1] at h2; cases h2
theorem prices_eq {m : Nat} {B : List Nat} (h : Mat m B) (w : List Int) : greedy_weights m (cs B) w = values_prices m w := by
  unfold greedy_weights values_prices
  rw [h.check]
  rfl
theorem prices_of {m : Nat} {B : List Nat} (h : Mat m B) (w : List Int) : ∃ r, values_prices m w = some r ∧ ((r = 0 ∧ WOk m w) ∨ (r ≠ 0 ∧ ¬ WOk m w)) := by
  obtain ⟨r, h1, h2⟩ := weights_spec m (cs B) w (by have := h.len; simp; omega)
  rw [prices_eq h] at h1
  refine ⟨r, h1, ?_⟩
  rcases h2 with ⟨h0, m', B', e1, e2, _, e3⟩ | ⟨h0, hn⟩
  · have : m = m' := Int.ofNat.inj e1
    subst this
    exact .inl ⟨h0, e3⟩
  · exact .inr ⟨h0, fun hW => hn ⟨m, B, rfl, rfl, h, hW⟩⟩
theorem wok1 : WOk 1 [2] := ⟨rfl, fun i hi => by
  have : i = 0 := by omega
  subst this; decide⟩
theorem rotakeep_ValuesWeights_law (n : Int) (l w : List Int) (hl : l.length ≤ 9223372036854775807) : rotakeep_ValuesWeights n l w = some true := by
  refine Gets.eq ?_
  unfold rotakeep_ValuesWeights
  have hp1 : values_prices (1 : Nat) [2] = some 0 := by
    obtain ⟨r, h1, h2⟩ := prices_of mat1 [2]
    rcases h2 with ⟨rfl, _⟩ | ⟨_, h2⟩
    · exact h1
    · exact absurd wok1 h2
  refine gBind (show Gets (values_Best 1 [(1, 0)] [2]) (fun r => r.2.2 = 0 ∧ r.1 = 1 ∧ r.2.1 = 2) from (vBest_spec mat1 hp1 wok1).mono fun r hr => ?_) fun y hy => gIte (fun q => absurd q (by simp [hy])) fun _ => ?_
  · obtain ⟨h1, _, b, h2, h3, h4⟩ := hr
    have : b = 1 := List.mem_singleton.1 h2
    subst this
    exact ⟨h1, h3, by rw [h4]; decide⟩
  refine gBind (axioms_Check_spec n l hl) ?_
  rintro y1 (⟨rfl, m, B, rfl, rfl, h⟩ | ⟨hy1, _⟩)
  rotate_left
  · exact gIte (fun _ => gSome rfl) fun q => absurd hy1 q
  have hlen := h.len
  refine gIte (fun q => absurd rfl q) fun _ => ?_
  refine gBind (R := fun o => o = vcs (zB B)) (gFor B.length (fun k (x : List (Int × Int) × Int) => x.2 = (k : Int) ∧ x.1 = (vcs (zB B)).take k) (Nat.zero_le _) ⟨rfl, rfl⟩ ?_) ?_
  · rintro k ⟨_, _⟩ hk ⟨rfl, rfl⟩
    simp only [toNat_nat, cs_len, cs_get]
    refine gIte (fun h1 => gChk (by omega) (gChk (by simp; omega) (gSome ⟨by omega, by simp, ?_⟩))) fun h1 => gSome (by rw [List.take_of_length_le (by simp; omega)])
    have hk' : k < B.length := by omega
    show _ = (vcs (zB B)).take (k + 1)
    have e := vz_get B k
    rw [List.getD_eq_getElem?_getD, List.getElem?_eq_getElem (by simpa using hk')] at e
    rw [List.take_add_one, List.getElem?_eq_getElem (by simpa using hk')]
    simp only [Option.getD_some] at e
    rw [e]; rfl
  rintro _ rfl
  refine gBindE (values_Check_zero h) (gIte (fun q => absurd rfl q) fun _ => ?_)
  obtain ⟨r, h1, h2⟩ := prices_of h w
  rcases h2 with ⟨rfl, hW⟩ | ⟨hr, hW⟩
  · refine gBind (vBest_spec h h1 hW) ?_
    rintro y3 ⟨a1, a2, b, b1, b2, b3⟩
    refine gBind (Best_spec m (cs B) w hl) ?_
    rintro y4 (⟨_, _, _, hn⟩ | ⟨c1, m', B', d1, d2, d3, d4, T, t1, t2, t3⟩)
    · exact absurd ⟨m, B, rfl, rfl, h, hW⟩ hn
    · have e1 : m = m' := Int.ofNat.inj d1
      have e2 := cs_inj d2
      subst e1 e2
      have g1 := a2 T t3.mem
      have g2 := t3.le h hW b1
      exact gSome (by simp only [decide_eq_true_eq]; omega)
  · refine gBindE (a := (0, 0, r)) (by unfold values_Best; rw [values_Check_zero h, Option.bind_some, if_neg (by simp), h1, Option.bind_some, if_pos hr]) (gBindE (a := (0, 0, r)) (by unfold greedy_Best; rw [prices_eq h, h1, Option.bind_some, if_pos hr]) (gSome (by simp)))
end Go.SH
