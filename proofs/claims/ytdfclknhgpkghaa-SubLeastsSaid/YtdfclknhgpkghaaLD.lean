/-
  The ranks of a matroid induce it; the statement SubRanks as a plain law. Conditions: lists are no longer than 2^63 - 1.
-/
import Derived.Test.YtdfclknhgpkghaaLB
import Derived.Test.YtdfclknhgpkghaaLU
import Derived.Test.YtdfclknhgpkghaaSprotalaw
set_option linter.unusedSimpArgs false
set_option linter.unusedVariables false
namespace Go.SH
open Go Go.AX

theorem sub_size_nat {a : Nat} (h : a < 256) : sub_size (a : Int) = some ((size a : Nat) : Int) := by
  unfold sub_size
  rw [chk_pos (by omega)]
  simp [bits_OnesCount, oc_size h]
theorem Same_self (l : List Int) : rotalaw_Same_int l l = some true := by
  refine Gets.eq ?_
  unfold rotalaw_Same_int
  refine gIte (fun q => absurd rfl q) fun _ => gBind (R := fun z => match z with | .inl _ => True | .inr r => False) (gFor l.length (fun k v => v = (k : Int)) (Nat.zero_le _) rfl ?_) ?_
  · rintro k _ hk rfl
    exact gIte (fun h1 => gChk (by omega) (gIte (fun q => absurd rfl q) fun _ => gSome ⟨by omega, by simp⟩)) fun _ => gSome trivial
  · rintro (u | rr) hz
    · exact gSome rfl
    · exact hz.elim

section
variable {m : Nat} {B : List Nat} (h : Mat m B)
include h
theorem Mat.subm : Subm m (cs (rkL m B)) := by
  have h8 := h.m8
  have get : ∀ k, k < 2 ^ m → (cs (rkL m B)).getD k 0 = rk m B k := fun k hk => by rw [cs_get, rkL_get m B hk]
  have hpos : 0 < 2 ^ m := Nat.pow_pos (by omega)
  refine ⟨⟨h8, by simp [rkL_len], fun k hk => ?_, ?_⟩, fun s hs i hi k hk e => ?_⟩
  · rw [get k hk]
    have := h.rk_size k
    have := cnt_le m k
    omega
  · rw [get 0 hpos, h.rk_zero]; rfl
  · have i1 := pow_lt hi
    have k1 : 2 ^ k < 2 ^ m := pow_lt (by omega)
    have b := (disj_iff s (2 ^ i ||| 2 ^ k)).1 e
    have e1 : (s ||| 2 ^ i) &&& (s ||| 2 ^ k) = s := by
      apply Nat.eq_of_testBit_eq
      intro j
      simp only [Nat.testBit_and, Nat.testBit_or, testBit_pow]
      by_cases c1 : i = j
      · have : k ≠ j := by omega
        cases s.testBit j <;> simp [this]
      · cases s.testBit j <;> simp [c1]
    have e2 : (s ||| 2 ^ i) ||| (s ||| 2 ^ k) = s ||| 2 ^ i ||| 2 ^ k := by
      apply Nat.eq_of_testBit_eq
      intro j
      simp only [Nat.testBit_or]
      cases s.testBit j <;> simp
    have := h.rk_sub (s ||| 2 ^ i) (s ||| 2 ^ k)
    rw [e1, e2] at this
    rw [get _ hs, get _ (or_lt hs i1), get _ (or_lt hs k1), get _ (or_lt (or_lt hs i1) k1)]
    omega

/-- Those of the largest count below k. -/
def topI (m : Nat) (B : List Nat) (k : Nat) (v : Int) : List Nat := (List.range k).filter fun s => decide (rk m B s = cnt m s) && decide ((cnt m s : Int) = v)
theorem topI_succ (k : Nat) (v : Int) : topI m B (k + 1) v = if rk m B k = cnt m k ∧ (cnt m k : Int) = v then topI m B k v ++ [k] else topI m B k v := by
  have _ := h
  unfold topI
  rw [List.range_succ, List.filter_append]
  by_cases c : rk m B k = cnt m k ∧ (cnt m k : Int) = v
  · rw [if_pos c]
    have : (decide (rk m B k = cnt m k) && decide ((cnt m k : Int) = v)) = true := by simp [c]
    rw [List.filter_cons, if_pos this]; rfl
  · rw [if_neg c]
    have : ¬ (decide (rk m B k = cnt m k) && decide ((cnt m k : Int) = v)) = true := by simpa using c
    rw [List.filter_cons, if_neg this]; simp

theorem Mat.induced : sub_Induced m (cs (rkL m B)) = some ((m : Int), cs B, 0) := by
  refine Gets.eq ?_
  have h8 := h.m8
  have h256 := pow_le8 h8
  have get : ∀ k, k < 2 ^ m → (cs (rkL m B)).getD k 0 = rk m B k := fun k hk => by rw [cs_get, rkL_get m B hk]
  have len : (cs (rkL m B)).length = 2 ^ m := by simp [rkL_len]
  have hpos : 0 < 2 ^ m := Nat.pow_pos (by omega)
  unfold sub_Induced
  refine gBindE h.subm.check (gIte (fun q => absurd rfl q) fun _ => ?_)
  refine gBind (R := fun z => match z with | .inl _ => True | .inr r => False) (gFor (2 ^ m) (fun k v => v = (k : Int)) (Nat.zero_le _) rfl ?_) ?_
  · rintro k _ hk rfl
    rw [len]
    refine gIte (fun h1 => ?_) fun h1 => gSome trivial
    have hk' : k < 2 ^ m := by omega
    refine gBind (R := fun z => match z with | .inl _ => True | .inr r => False) (gFor m (fun k v => v = (k : Int)) (Nat.zero_le _) rfl ?_) ?_
    · rintro i _ hi rfl
      refine gIte (fun h1 => ?_) fun h1 => gSome trivial
      have hi' : i < m := by omega
      have ho := or_lt hk' (pow_lt hi')
      simp only [toNat_nat, shl_nat', or_nat, get _ ho, get _ hk']
      have := h.rk_mono (inc_or_l k (2 ^ i))
      exact gChk (by omega) (gIte (fun q => by omega) fun _ => gSome ⟨hi', by simp⟩)
    · rintro (u | rr) hz
      · exact gSome ⟨hk', by simp⟩
      · exact hz.elim
  · rintro (u | rr) hz
    rotate_left
    · exact hz.elim
    refine gBind (R := fun o => o = cs B) (gFor (2 ^ m) (fun k (x : List Int × Int × Int) => x.2.2 = (k : Int) ∧ x.1 = cs (topI m B k x.2.1) ∧ (-1 ≤ x.2.1 ∧ (k = 0 → x.2.1 ≤ 0)) ∧ x.2.1 ≤ m ∧ (0 < k → ∃ s, s < k ∧ rk m B s = cnt m s ∧ (cnt m s : Int) = x.2.1) ∧ ∀ s, s < k → rk m B s = cnt m s → (cnt m s : Int) ≤ x.2.1) (Nat.zero_le _) ⟨rfl, rfl, ⟨by simp, by simp⟩, by simp, fun q => absurd q (Nat.lt_irrefl 0), fun s hs => absurd hs (Nat.not_lt_zero s)⟩ ?_) ?_
    · rintro k ⟨x1, v, x3⟩ hk ⟨hx3, hx1, hv1, hv2, hv3, hv4⟩
      simp only at hx1 hx3 hv1 hv2 hv3 hv4 ⊢
      subst hx1 hx3
      rw [len]
      refine gIte (fun h1 => ?_) fun h1 => gSome ?_
      · have hk' : k < 2 ^ m := by omega
        have hck := cnt_le m k
        refine gBind (R := fun r : Bool => r = decide (rk m B k = cnt m k)) (gLoop (fun x : Bool × Int => ∃ t : Nat, x.2 = (t : Int) ∧ Inc t k ∧ ((x.1 = true ∧ (t = k ∨ rk m B k = cnt m k)) ∨ (x.1 = false ∧ rk m B k ≠ cnt m k))) (fun x => x.2.toNat) ⟨k, rfl, Inc.refl k, .inl ⟨rfl, .inl rfl⟩⟩ ?_) ?_
        · rintro ⟨b, _⟩ ⟨t, rfl, ht, hb⟩
          simp only at hb ⊢
          refine gIte (fun q => ?_) fun q => gSome ?_
          · obtain ⟨q1, rfl⟩ := q
            have htm := ht.lt hk'
            have hb' : t = k ∨ rk m B k = cnt m k := by
              rcases hb with hb | hb
              · exact hb.2
              · cases hb.1
            refine gBindE (sub_size_nat (by omega)) ?_
            simp only [toNat_nat, get _ htm, len, size_of_lt htm h8]
            obtain ⟨t', rfl⟩ : ∃ t', t = t' + 1 := ⟨t - 1, by omega⟩
            have e1 : (((t' + 1 : Nat) : Int) - 1) = ((t' : Nat) : Int) := by omega
            rw [e1, and_nat]
            refine gChk (by omega) (gChk (by omega) (gSome ⟨⟨t' &&& k, rfl, inc_and_r _ _, ?_⟩, ?_⟩))
            · have hr := h.rk_size (t' + 1)
              rcases hb' with rfl | hb'
              · by_cases c : rk m B (t' + 1) = cnt m (t' + 1)
                · exact .inl ⟨decide_eq_true (by omega), .inr c⟩
                · exact .inr ⟨decide_eq_false (by omega), c⟩
              · refine .inl ⟨decide_eq_true ?_, .inr hb'⟩
                have := (h.ind_iff htm).1 (((h.ind_iff hk').2 hb').mono ht)
                omega
            · have := Nat.and_le_left (n := t') (m := k)
              show ((t' &&& k : Nat) : Int).toNat < ((t' + 1 : Nat) : Int).toNat
              omega
          · rcases hb with ⟨rfl, hb⟩ | ⟨rfl, hb⟩
            · have h0 : t = 0 := by
                rcases Nat.eq_zero_or_pos t with c | c
                · exact c
                · exact absurd ⟨by omega, rfl⟩ q
              subst h0
              refine (decide_eq_true ?_).symm
              rcases hb with rfl | hb
              · rw [h.rk_zero, cnt_zero]
              · exact hb
            · exact (decide_eq_false hb).symm
        · rintro b rfl
          have hlen : (topI m B k v).length ≤ k := by
            have := List.length_filter_le (fun s => decide (rk m B s = cnt m s) && decide ((cnt m s : Int) = v)) (List.range k)
            simpa [topI] using this
          have sz := sub_size_nat (show k < 256 by omega)
          rw [size_of_lt hk' h8] at sz
          by_cases hI : rk m B k = cnt m k
          · simp only [hI, decide_true, not_true_eq_false, not_false_eq_true, if_true, false_or, sz, Option.bind_some]
            refine gIte (fun q => gSome ⟨hk', by simp, ?_, ⟨hv1.1, fun c => by omega⟩, hv2, fun _ => ?_, fun s hs hi => ?_⟩) fun q => gIte (fun q2 => gChk (by simp) (gSome ⟨hk', by simp, ?_, ?_, ?_, fun _ => ⟨k, Nat.lt_succ_self k, hI, rfl⟩, fun s hs hi => ?_⟩)) fun q2 => gChk (by simp; omega) (gSome ⟨hk', by simp, ?_, ⟨hv1.1, fun c => by omega⟩, hv2, fun _ => ⟨k, Nat.lt_succ_self k, hI, by simp only; omega⟩, fun s hs hi => ?_⟩)
            · show _ = cs (topI m B (k + 1) v)
              rw [topI_succ h, if_neg (by omega)]
            · have hk0 : 0 < k := by
                rcases Nat.eq_zero_or_pos k with c | c
                · subst c
                  exfalso
                  rw [cnt_zero] at q
                  have := hv1.2 rfl
                  omega
                · exact c
              obtain ⟨s, s1, s2, s3⟩ := hv3 hk0
              exact ⟨s, by omega, s2, s3⟩
            · rcases Nat.lt_succ_iff_lt_or_eq.1 hs with c | rfl
              · exact hv4 s c hi
              · simp only; omega
            · rw [topI_succ h, if_pos ⟨hI, rfl⟩]
              have : topI m B k (cnt m k : Nat) = [] := by
                refine List.filter_eq_nil_iff.2 fun s hs => ?_
                have hs' : s < k := by simpa using hs
                intro c
                simp only [Bool.and_eq_true, decide_eq_true_eq] at c
                have := hv4 s hs' c.1
                omega
              rw [this]; rfl
            · exact ⟨by simp only; omega, fun c => by omega⟩
            · simp only; omega
            · rcases Nat.lt_succ_iff_lt_or_eq.1 hs with c | rfl
              · have := hv4 s c hi; simp only; omega
              · exact Int.le_refl _
            · show _ = cs (topI m B (k + 1) v)
              rw [topI_succ h, if_pos ⟨hI, by omega⟩, cs_app]
            · rcases Nat.lt_succ_iff_lt_or_eq.1 hs with c | rfl
              · exact hv4 s c hi
              · simp only; omega
          · simp only [hI, decide_false, Bool.false_eq_true, not_false_eq_true, not_true_eq_false, if_false, Option.bind_some, true_or, if_true]
            refine gSome ⟨hk', by simp, ?_, ⟨hv1.1, fun c => by omega⟩, hv2, fun _ => ?_, fun s hs hi => ?_⟩
            · rw [topI_succ h, if_neg (by intro c; exact hI c.1)]
            · have hk0 : 0 < k := by
                rcases Nat.eq_zero_or_pos k with c | c
                · subst c; exact absurd (by rw [h.rk_zero, cnt_zero]) hI
                · exact c
              obtain ⟨s, s1, s2, s3⟩ := hv3 hk0
              exact ⟨s, by omega, s2, s3⟩
            · rcases Nat.lt_succ_iff_lt_or_eq.1 hs with c | rfl
              · exact hv4 s c hi
              · exact absurd hi hI
      · have hkm : k = 2 ^ m := by omega
        subst hkm
        congr 1
        obtain ⟨s0, s1, s2, s3⟩ := hv3 hpos
        have hbas : ∀ b, b ∈ B → (cnt m b : Int) = v := fun b hb => by
          have hbm := h.lt b hb
          have i1 := hv4 b hbm ((h.ind_iff hbm).1 ⟨b, hb, Inc.refl b⟩)
          obtain ⟨b', hb', hin⟩ := (h.ind_iff s1).2 s2
          have := cnt_le_of_inc (m := m) hin
          have := h.eqc b hb b' hb'
          omega
        refine (filter_fam h8 _).ext h.toFam fun s => ?_
        simp only [List.mem_filter, List.mem_range, Bool.and_eq_true, decide_eq_true_eq]
        constructor
        · rintro ⟨s4, s5, s6⟩
          obtain ⟨b', hb', hin⟩ := (h.ind_iff s4).2 s5
          have := hbas b' hb'
          rw [inc_eq_of_cnt (m := m) hin (h.lt b' hb') (by omega)]
          exact hb'
        · intro hs
          have hsm := h.lt s hs
          exact ⟨hsm, (h.ind_iff hsm).1 ⟨s, hs, Inc.refl s⟩, hbas s hs⟩
    · rintro o rfl
      exact gSome rfl
end

theorem mat_one : Mat 1 [1] := ⟨⟨by omega, by decide, rise_small (by decide)⟩, by decide, by decide, ex_small (m := 1) (by decide) (by decide)⟩
theorem ranks_one : cs (rkL 1 [1]) = [0, 1] := by decide +kernel

end Go.SH
