/-
  The ranks of a matroid induce it; the statement SubRanks as a plain law. Conditions: lists are no longer than 2^63 - 1.
-/
import Derived.Test.YtcjhpcbipcdhiaaLB
import Derived.Test.YtcjhpcbipcdhiaaLU
import Derived.Test.YtcjhpcbipcdhiaaSprotalaw
set_option linter.unusedSimpArgs false
set_option linter.unusedVariables false
namespace Go.SH
open Go Go.AX

theorem Same_self (l : List Int) : rotalaw_Same_int l l = some true := by
  refine Gets.eq ?_
  unfold rotalaw_Same_int
  refine gIte (fun q => absurd rfl q) fun _ => gBind (R := fun z => match z with | .inl _ => True | .inr r => False) (gFor l.length (fun k v => v = (k : Int)) (Nat.zero_le _) rfl ?_) ?_
  · rintro k _ hk rfl
    exact gIte (fun h1 => gChk (by omega) (gIte (fun q => absurd rfl q) fun _ => gSome ⟨by omega, by simp⟩)) fun _ => gSome trivial
  · rintro (u | rr) hz
    · exact gSome rfl
    · exact hz.elim

section
variable {m : Nat} {B : List Nat} (h : Mat m B)
include h
theorem Mat.subm : Subm m (cs (rkL m B)) := by
  have h8 := h.m8
  have get : ∀ k, k < 2 ^ m → (cs (rkL m B)).getD k 0 = rk m B k := fun k hk => by rw [cs_get, rkL_get m B hk]
  have hpos : 0 < 2 ^ m := Nat.pow_pos (by omega)
  refine ⟨⟨h8, by simp [rkL_len], fun k hk => ?_, ?_⟩, fun s hs i hi k hk e => ?_⟩
  · rw [get k hk]
    have := h.rk_size k
    have := cnt_le m k
    omega
  · rw [get 0 hpos, h.rk_zero]; rfl
  · have i1 := pow_lt hi
    have k1 : 2 ^ k < 2 ^ m := pow_lt (by omega)
    have b := (disj_iff s (2 ^ i ||| 2 ^ k)).1 e
    have e1 : (s ||| 2 ^ i) &&& (s ||| 2 ^ k) = s := by
      apply Nat.eq_of_testBit_eq
      intro j
      simp only [Nat.testBit_and, Nat.testBit_or, testBit_pow]
      by_cases c1 : i = j
      · have : k ≠ j := by omega
        cases s.testBit j <;> simp [this]
      · cases s.testBit j <;> simp [c1]
    have e2 : (s ||| 2 ^ i) ||| (s ||| 2 ^ k) = s ||| 2 ^ i ||| 2 ^ k := by
      apply Nat.eq_of_testBit_eq
      intro j
      simp only [Nat.testBit_or]
      cases s.testBit j <;> simp
    have := h.rk_sub (s ||| 2 ^ i) (s ||| 2 ^ k)
    rw [e1, e2] at this
    rw [get _ hs, get _ (or_lt hs i1), get _ (or_lt hs k1), get _ (or_lt (or_lt hs i1) k1)]
    omega

/-- Those of the largest count below k. -/
def topI (m : Nat) (B : List Nat) (k : Nat) (v : Int) : List Nat := (List.range k).filter fun s => decide (rk m B s = cnt m s) && decide ((cnt m s : Int) = v)
theorem topI_succ (k : Nat) (v : Int) : topI m B (k + 1) v = if rk m B k = cnt m k ∧ (cnt m k : Int) = v then topI m B k v ++ [k] else topI m B k v := by
  have _ := h
  unfold topI
  rw [List.range_succ, List.filter_append]
  by_cases c : rk m B k = cnt m k ∧ (cnt m k : Int) = v
  · rw [if_pos c]
    have : (decide (rk m B k = cnt m k) && decide ((cnt m k : Int) = v)) = true := by simp [c]
    rw [List.filter_cons, if_pos this]; rfl
  · rw [if_neg c]
    have : ¬ (decide (rk m B k = cnt m k) && decide ((cnt m k : Int) = v)) = true := by simpa using c
    rw [List.filter_cons, if_neg this]; simp

end

theorem mat_one : Mat 1 [1] := ⟨⟨by omega, by decide, rise_small (by decide)⟩, by decide, by decide, ex_small (m := 1) (by decide) (by decide)⟩
theorem ranks_one : cs (rkL 1 [1]) = [0, 1] := by decide +kernel

end Go.SH
