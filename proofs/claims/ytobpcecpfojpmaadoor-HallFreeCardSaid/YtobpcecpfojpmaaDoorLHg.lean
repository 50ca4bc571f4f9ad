/-
  Elements that stand for sets: what the search for a new one does. Conditions: at most eight elements.
-/
import Derived.Test.YtobpcecpfojpmaaDoorLM
import Derived.Test.YtobpcecpfojpmaaDoorSphall
set_option linter.unusedSimpArgs false
set_option linter.unusedVariables false
namespace Go.SH
open Go Go.AX

theorem tz_tab : ∀ t : Fin 256, t.val ≠ 0 → Go.Lib.ctz 64 t.val < 8 ∧ t.val.testBit (Go.Lib.ctz 64 t.val) = true := by decide +kernel
theorem tz_nat {x : Nat} (hx : x < 256) (h0 : x ≠ 0) : ∃ i : Nat, bits_TrailingZeros (x : Int) = some (i : Int) ∧ i < 8 ∧ x.testBit i = true := by
  have h := tz_tab ⟨x, hx⟩ h0
  refine ⟨Go.Lib.ctz 64 x, ?_, h.1, h.2⟩
  unfold bits_TrailingZeros
  rw [chk_pos (by omega), toNat_nat]
/-- Each element's set, or -1. -/
structure MV (n : Nat) (L : List Nat) (of : List Int) : Prop where
  len : of.length = n
  ok : ∀ x, x < n → of.getD x 0 = -1 ∨ ∃ k, k < L.length ∧ of.getD x 0 = ((k : Nat) : Int) ∧ (L.getD k 0).testBit x = true
/-- How often a set has an element. -/
def occ (n : Nat) (of : List Int) (v : Nat) : Int := sumN n fun x => if of.getD x 0 = (v : Int) then 1 else 0
/-- Elements that all stand, for sets that have none beyond. -/
def Cls (L : List Nat) (of : List Int) (S : Nat) : Prop := ∀ x, S.testBit x = true → ∃ j, j < L.length ∧ of.getD x 0 = ((j : Nat) : Int) ∧ Inc (L.getD j 0) S
theorem getD_set {of : List Int} {i x : Nat} {a : Int} (hi : i < of.length) : (of.set i a).getD x 0 = if x = i then a else of.getD x 0 := by
  rw [List.getD_eq_getElem?_getD, List.getElem?_set, List.getD_eq_getElem?_getD]
  by_cases h : i = x
  · subst h
    rw [if_pos rfl, if_pos hi, if_pos rfl]; rfl
  · rw [if_neg h, if_neg (fun e => h e.symm)]
theorem occ_set {n i : Nat} {of : List Int} {a : Int} (hi : i < n) (hl : of.length = n) (v : Nat) : occ n (of.set i a) v = occ n of v - (if of.getD i 0 = (v : Int) then 1 else 0) + if a = (v : Int) then 1 else 0 := by
  have := sumN_upd (n := n) (i := i) (g := fun x => if of.getD x 0 = (v : Int) then 1 else 0) (h := fun x => if (of.set i a).getD x 0 = (v : Int) then 1 else 0) (v := (if a = (v : Int) then 1 else 0) - if of.getD i 0 = (v : Int) then 1 else 0) hi fun j hj => by
    rw [getD_set (by omega)]
    by_cases h : j = i
    · subst h; rw [if_pos rfl, if_pos rfl]; omega
    · rw [if_neg h, if_neg h]; omega
  unfold occ
  rw [this]; omega
/-- What comes out of the search. -/
def GrownR (n : Nat) (L : List Nat) (of : List Int) (k seen : Nat) (r : Bool × List Int × Int) : Prop :=
  r.2.1.length = n ∧ ∃ s' : Nat, r.2.2 = (s' : Int) ∧ s' < 2 ^ n ∧ Inc seen s' ∧
    ((r.1 = false ∧ r.2.1 = of ∧ Inc (L.getD k 0) s' ∧ ∀ x, s'.testBit x = true → seen.testBit x = false → ∃ j, j < L.length ∧ of.getD x 0 = ((j : Nat) : Int) ∧ Inc (L.getD j 0) s') ∨
     (r.1 = true ∧ MV n L r.2.1 ∧ (∀ x, ¬ (s'.testBit x = true ∧ seen.testBit x = false) → r.2.1.getD x 0 = of.getD x 0) ∧ (∀ v : Nat, occ n r.2.1 v = occ n of v + if v = k then 1 else 0) ∧
      ∀ S, Cls L of S → ¬ Inc (L.getD k 0) S ∧ ∀ x, S.testBit x = true → r.2.1.getD x 0 = of.getD x 0))

theorem hgrown_spec {n : Nat} {L : List Nat} (h8 : n ≤ 8) (hL : L.length ≤ 8) (hlt : ∀ k, k < L.length → L.getD k 0 < 2 ^ n) (fuel : Nat) : ∀ (of : List Int) (k seen : Nat), MV n L of → k < L.length → seen < 2 ^ n → n + 1 ≤ fuel + cnt n seen →
    Gets (hall_grown fuel (cs L) of k seen) (GrownR n L of k seen) := by
  have h256 := pow_le8 h8
  induction fuel with
  | zero => intro of k seen _ _ _ hf; have := cnt_le n seen; omega
  | succ fuel ih =>
    intro of k seen hM hk hs hf
    have hkl := hlt k hk
    rw [hall_grown.eq_2]
    simp only [cs_len, cs_get, toNat_nat]
    refine gChk (by omega) ?_
    rw [dif_nat]
    refine gBind (R := fun z => match z with
        | .inl o => GrownR n L of k seen (false, o.1, o.2)
        | .inr r => GrownR n L of k seen r)
      (gLoop (fun (s : List Int × Int × Int) => s.1 = of ∧ ∃ s1 : Nat, s.2.1 = (s1 : Int) ∧ s.2.2 = ((dif (L.getD k 0) s1 : Nat) : Int) ∧ s1 < 2 ^ n ∧ Inc seen s1 ∧ ∀ x, s1.testBit x = true → seen.testBit x = false → ∃ j, j < L.length ∧ of.getD x 0 = ((j : Nat) : Int) ∧ Inc (L.getD j 0) s1)
        (fun s => n - cnt n s.2.1.toNat) ⟨rfl, seen, rfl, rfl, hs, Inc.refl _, fun x h1 h2 => by rw [h1] at h2; cases h2⟩ ?_) ?_
    · rintro ⟨_, _, _⟩ ⟨rfl, s1, rfl, rfl, hs1, hin, hcl⟩
      rename_i of'
      have hMl : of'.length = n := hM.len
      replace hM : MV n L of' := hM
      simp only [toNat_nat]
      refine gIte (fun h0 => ?_) fun h0 => gSome ?_
      · have h0' : dif (L.getD k 0) s1 ≠ 0 := by omega
        have hxl : dif (L.getD k 0) s1 < 2 ^ n := dif_lt hkl
        obtain ⟨i, e1, hi8, hbi⟩ := tz_nat (by omega) h0'
        have hin' : i < n := bit_lt hxl hbi
        have hbi' := hbi
        rw [testBit_dif, Bool.and_eq_true, Bool.not_eq_true'] at hbi'
        obtain ⟨hki, hsi⟩ := hbi'
        have hpl : 2 ^ i < 2 ^ n := pow_lt hin'
        have hs2 : s1 ||| 2 ^ i < 2 ^ n := or_lt hs1 hpl
        have hc2 : cnt n (s1 ||| 2 ^ i) = cnt n s1 + 1 := cnt_add hin' hsi
        have hcs := cnt_le_of_inc (m := n) hin
        have hsei : seen.testBit i = false := by
          cases q : seen.testBit i with
          | false => rfl
          | true => rw [hin i q] at hsi; cases hsi
        have hse2 : (s1 ||| 2 ^ i).testBit i = true := by rw [Nat.testBit_or, testBit_pow]; simp
        have hcn := cnt_le n (s1 ||| 2 ^ i)
        refine gChk (by omega) (gBindE e1 ?_)
        simp only [toNat_nat, shl_nat', or_nat]
        refine gChk (by omega) (gChk ⟨by omega, fun _ => by omega⟩ ?_)
        refine gIte (fun hneg => ?_) fun hneg => ?_
        · rcases hM.ok i hin' with q | ⟨j, hj, hoj, hjb⟩
          · rw [q] at hneg; exact absurd (by omega) hneg
          rw [hoj]
          refine gBind (ih of' j (s1 ||| 2 ^ i) hM hj hs2 (by omega)) ?_
          rintro ⟨b, o2, s2i⟩ ⟨hl2, s2, e2, hs2l, hin2, hr⟩
          simp only at hl2 e2 hr
          subst e2
          dsimp only
          refine gChk (by omega) ?_
          have hins : Inc seen s2 := fun x hx => hin2 x (inc_or_l _ _ x (hin x hx))
          rcases hr with ⟨rfl, rfl, hj2, hcl2⟩ | ⟨rfl, hM2, hun2, hoc2, hS2⟩
          · refine gIte (fun q => by cases q) fun _ => gChk (by omega) ?_
            rw [dif_nat]
            refine gSome ⟨⟨rfl, s2, rfl, rfl, hs2l, hins, fun x h1 h2 => ?_⟩, ?_⟩
            · rcases Classical.em ((s1 ||| 2 ^ i).testBit x = true) with c | c
              · rcases Classical.em (s1.testBit x = true) with d | d
                · obtain ⟨j', q1, q2, q3⟩ := hcl x d h2
                  exact ⟨j', q1, q2, q3.trans ((inc_or_l _ _).trans hin2)⟩
                · rw [Nat.testBit_or, testBit_pow, Bool.or_eq_true, decide_eq_true_eq] at c
                  rcases c with c | c
                  · exact absurd c d
                  · subst c; exact ⟨j, hj, hoj, hj2⟩
              · exact hcl2 x h1 (by simpa using c)
            · have h3 := cnt_le_of_inc (m := n) hin2
              have h4 := cnt_le n s2
              show n - cnt n ((s2 : Nat) : Int).toNat < n - cnt n ((s1 : Nat) : Int).toNat
              rw [toNat_nat, toNat_nat]; omega
          · refine gIte (fun _ => gChk (by omega) (gSome ?_)) fun q => absurd rfl q
            have hoi : o2.getD i 0 = (j : Int) := by rw [hun2 i (fun q => by rw [hse2] at q; exact absurd q.2 (by simp)), hoj]
            refine ⟨by simpa using hl2, s2, rfl, hs2l, hins, .inr ⟨rfl, ⟨by simpa using hl2, fun x hx => ?_⟩, fun x hx => ?_, fun v => ?_, fun S hS => ?_⟩⟩
            · show (o2.set i (k : Int)).getD x 0 = -1 ∨ _
              rw [getD_set (by omega)]
              by_cases c : x = i
              · subst c; rw [if_pos rfl]; exact .inr ⟨k, hk, rfl, hki⟩
              · rw [if_neg c]; exact hM2.ok x hx
            · show (o2.set i (k : Int)).getD x 0 = _
              rw [getD_set (by omega)]
              have c : x ≠ i := fun c => by subst c; exact hx ⟨hin2 _ hse2, hsei⟩
              rw [if_neg c]
              refine hun2 x fun q => hx ⟨q.1, ?_⟩
              cases p : seen.testBit x with
              | false => rfl
              | true => have := inc_or_l s1 (2 ^ i) x (hin x p); rw [q.2] at this; cases this
            · show occ n (o2.set i (k : Int)) v = _
              rw [occ_set hin' hl2, hoc2, hoi]
              by_cases c : v = k <;> by_cases d : v = j <;> simp only [c, d, if_true, if_false, Int.natCast_inj] <;> (try subst c) <;> (try subst d) <;> (try simp) <;> (try omega) <;> (split <;> split <;> omega)
            · obtain ⟨f1, f2⟩ := hS2 S hS
              have hiS : S.testBit i = false := by
                cases q : S.testBit i with
                | false => rfl
                | true =>
                  obtain ⟨j', _, q2, q3⟩ := hS i q
                  rw [hoj] at q2
                  have : j = j' := by omega
                  subst this
                  exact absurd q3 f1
              refine ⟨fun q => (by rw [q i hki] at hiS; cases hiS), fun x hx => ?_⟩
              show (o2.set i (k : Int)).getD x 0 = _
              rw [getD_set (by omega)]
              have c : x ≠ i := fun c => by subst c; rw [hx] at hiS; cases hiS
              rw [if_neg c]; exact f2 x hx
        · have hneg' : of'.getD i 0 < 0 := by
            rcases Int.lt_or_le (of'.getD i 0) 0 with q | q
            · exact q
            · exact absurd (by omega) hneg
          have hoi : of'.getD i 0 = -1 := by
            rcases hM.ok i hin' with q | ⟨j, hj, hoj, _⟩
            · exact q
            · omega
          refine gChk (by omega) (gSome (show GrownR n L of' k seen (true, of'.set i (k : Int), ((s1 ||| 2 ^ i : Nat) : Int)) from ⟨by simpa using hMl, s1 ||| 2 ^ i, rfl, hs2, fun x hx => inc_or_l _ _ x (hin x hx), .inr ⟨rfl, ⟨by simpa using hMl, fun x hx => ?_⟩, fun x hx => ?_, fun v => ?_, fun S hS => ?_⟩⟩))
          · show (of'.set i (k : Int)).getD x 0 = -1 ∨ _
            rw [getD_set (by omega)]
            by_cases c : x = i
            · subst c; rw [if_pos rfl]; exact .inr ⟨k, hk, rfl, hki⟩
            · rw [if_neg c]; exact hM.ok x hx
          · show (of'.set i (k : Int)).getD x 0 = _
            rw [getD_set (by omega)]
            have c : x ≠ i := fun c => by subst c; exact hx ⟨hse2, hsei⟩
            rw [if_neg c]
          · show occ n (of'.set i (k : Int)) v = _
            rw [occ_set hin' hMl, hoi, if_neg (show ¬ ((-1 : Int) = (v : Int)) by omega)]
            by_cases c : v = k
            · rw [if_pos (show ((k : Int) = (v : Int)) by omega), if_pos c]; omega
            · rw [if_neg (show ¬ ((k : Int) = (v : Int)) by omega), if_neg c]; omega
          · have hiS : S.testBit i = false := by
              cases q : S.testBit i with
              | false => rfl
              | true => obtain ⟨j', _, q2, _⟩ := hS i q; omega
            refine ⟨fun q => (by rw [q i hki] at hiS; cases hiS), fun x hx => ?_⟩
            show (of'.set i (k : Int)).getD x 0 = _
            rw [getD_set (by omega)]
            have c : x ≠ i := fun c => by subst c; rw [hx] at hiS; cases hiS
            rw [if_neg c]
      · have hz : dif (L.getD k 0) s1 = 0 := by
          rcases Classical.em (dif (L.getD k 0) s1 = 0) with q | q
          · exact q
          · exact absurd (by omega) h0
        exact ⟨hMl, s1, rfl, hs1, hin, .inl ⟨rfl, rfl, (sub_iff_dif _ _).1 hz, hcl⟩⟩
    · rintro (o | r) hz
      · exact gSome hz
      · exact gSome hz
end Go.SH
