/-
  The greatest sets of which something holds, as the code finds them. Conditions: sets of eight elements at most.
-/
import Derived.Test.YtdhbpoafkhojnaaSp
import Derived.Test.YtdhbpoafkhojnaaLM
import Derived.Test.YtdhbpoafkhojnaaLOc
set_option linter.unusedSimpArgs false
set_option linter.unusedVariables false
namespace Go.SH
open Go Go.AX

theorem kinds_size_nat {a : Nat} (h : a < 256) : kinds_size (a : Int) = some ((size a : Nat) : Int) := by
  unfold kinds_size
  rw [chk_pos (by omega)]
  simp [bits_OnesCount, oc_size h]
theorem fam_pw {m : Nat} {K : List Nat} (h8 : m ≤ 8) (h1 : ∀ s, s ∈ K → s < 2 ^ m) (h2 : K.Pairwise (· < ·)) : Fam m K := ⟨h8, h1, fun i j hij hj => by
  rw [List.pairwise_iff_getElem] at h2
  have := h2 i j (by omega) hj hij
  simpa [List.getD_eq_getElem?_getD, List.getElem?_eq_getElem hj, List.getElem?_eq_getElem (show i < K.length by omega)] using this⟩
/-- The greatest sets of which this holds. -/
theorem greatest_spec {n : Nat} (h8 : n ≤ 8) {g : Int → Option Bool} {p : Nat → Prop} (hf : ∀ s : Nat, s < 2 ^ n → Gets (g (s : Int)) (fun b => b = true ↔ p s)) (h0 : p 0) : Gets (kinds_greatest n g) (fun r => ∃ K, r = ((n : Int), cs K) ∧ Fam n K ∧ ∀ s, s ∈ K ↔ s < 2 ^ n ∧ p s ∧ ∀ t, t < 2 ^ n → p t → cnt n t ≤ cnt n s) := by
  have h256 := pow_le8 h8
  have hp2 : 0 < 2 ^ n := Nat.pow_pos (by omega)
  unfold kinds_greatest
  refine gChk (by omega) ?_
  simp only [toNat_nat, shl_nat']
  refine gBind (R := fun l => ∃ K, l = cs K ∧ Fam n K ∧ ∀ s, s ∈ K ↔ s < 2 ^ n ∧ p s ∧ ∀ t, t < 2 ^ n → p t → cnt n t ≤ cnt n s) (gFor (2 ^ n) (fun k (x : List Int × Int × Int) => x.2.2 = (k : Int) ∧ ∃ K : List Nat, x.1 = cs K ∧ K.Pairwise (· < ·) ∧ K.length ≤ k ∧ -1 ≤ x.2.1 ∧ (∀ s, s ∈ K ↔ s < k ∧ p s ∧ ((cnt n s : Nat) : Int) = x.2.1) ∧ (∀ s, s < k → p s → ((cnt n s : Nat) : Int) ≤ x.2.1) ∧ (x.2.1 = -1 ∨ ∃ s, s < k ∧ p s ∧ ((cnt n s : Nat) : Int) = x.2.1)) (Nat.zero_le _) ⟨rfl, [], rfl, List.Pairwise.nil, Nat.le_refl _, Int.le_refl _, fun s => ⟨fun h => (by cases h), fun h => absurd h.1 (by omega)⟩, none_all, .inl rfl⟩ ?_) ?_
  · rintro k ⟨_, most, _⟩ hk ⟨rfl, K, rfl, b1, b2, b3, b4, b5, b6⟩
    simp only at b3 b4 b5 b6
    dsimp only
    refine gIte (fun h1 => ?_) fun h1 => ?_
    rotate_left
    · have e : k = 2 ^ n := by omega
      subst e
      refine gSome ⟨K, rfl, fam_pw h8 (fun s hs => ((b4 s).1 hs).1) b1, fun s => ?_⟩
      rw [b4]
      refine ⟨fun ⟨q1, q2, q3⟩ => ⟨q1, q2, fun t ht hp => by have := b5 t ht hp; omega⟩, fun ⟨q1, q2, q3⟩ => ⟨q1, q2, ?_⟩⟩
      have h1 := b5 s q1 q2
      rcases b6 with b6 | ⟨t, t1, t2, t3⟩
      · omega
      · have := q3 t t1 t2; omega
    have hk' : k < 2 ^ n := by omega
    have hz : kinds_size (k : Int) = some ((cnt n k : Nat) : Int) := by rw [kinds_size_nat (by omega), size_of_lt hk' h8]
    have skip : ¬ (p k ∧ most ≤ ((cnt n k : Nat) : Int)) → (k < 2 ^ n ∧ ((k : Int) + 1 = ((k + 1 : Nat) : Int) ∧ ∃ K' : List Nat, cs K = cs K' ∧ K'.Pairwise (· < ·) ∧ K'.length ≤ k + 1 ∧ -1 ≤ most ∧ (∀ s, s ∈ K' ↔ s < k + 1 ∧ p s ∧ ((cnt n s : Nat) : Int) = most) ∧ (∀ s, s < k + 1 → p s → ((cnt n s : Nat) : Int) ≤ most) ∧ (most = -1 ∨ ∃ s, s < k + 1 ∧ p s ∧ ((cnt n s : Nat) : Int) = most))) := fun hn => by
      refine ⟨hk', by simp, K, rfl, b1, by omega, b3, fun s => ?_, fun s hs hp => ?_, b6.imp id fun ⟨s, s1, s2⟩ => ⟨s, by omega, s2⟩⟩
      · rw [b4]
        refine ⟨fun q => ⟨by omega, q.2⟩, fun q => ⟨?_, q.2⟩⟩
        rcases Nat.lt_succ_iff_lt_or_eq.1 q.1 with c | c
        · exact c
        · subst c; exact absurd ⟨q.2.1, by omega⟩ hn
      · rcases Nat.lt_succ_iff_lt_or_eq.1 hs with c | c
        · exact b5 s c hp
        · subst c
          rcases Int.lt_or_le most ((cnt n s : Nat) : Int) with d | d
          · exact absurd ⟨hp, by omega⟩ hn
          · exact d
    refine gBindE hz (gIte (fun h2 => ?_) fun h2 => gSome (skip fun q => h2 (by omega)))
    refine gBind (hf k hk') fun b hb => gIte (fun h3 => gSome (skip fun q => h3 (hb.2 q.1))) fun h3 => ?_
    have hp : p k := hb.1 (by simpa using h3)
    refine gBindE hz (gIte (fun h4 => ?_) fun h4 => ?_)
    · refine gBindE hz (gChk (by simp) (gSome ⟨hk', by simp, [k], rfl, List.pairwise_singleton _ _, by simp only [List.length_cons, List.length_nil]; omega, (show (-1 : Int) ≤ ((cnt n k : Nat) : Int) by omega), fun s => ?_, fun s hs hps => ?_, .inr ⟨k, by omega, hp, rfl⟩⟩))
      · rw [List.mem_singleton]
        refine ⟨fun e => by subst e; exact ⟨by omega, hp, rfl⟩, fun q => ?_⟩
        rcases Nat.lt_succ_iff_lt_or_eq.1 q.1 with c | c
        · have := b5 s c q.2.1
          have := q.2.2
          simp only at this
          omega
        · exact c
      · show ((cnt n s : Nat) : Int) ≤ ((cnt n k : Nat) : Int)
        rcases Nat.lt_succ_iff_lt_or_eq.1 hs with c | c
        · have := b5 s c hps; omega
        · subst c; omega
    · have he : ((cnt n k : Nat) : Int) = most := by omega
      refine gChk (by rw [List.length_append, cs_len]; simp only [List.length_cons, List.length_nil]; omega) (gSome ⟨hk', by simp, K ++ [k], cs_app _ _, List.pairwise_append.2 ⟨b1, List.pairwise_singleton _ _, fun a ha b hb => ?_⟩, by rw [List.length_append]; simp only [List.length_cons, List.length_nil]; omega, b3, fun s => ?_, fun s hs hps => ?_, .inr ⟨k, by omega, hp, he⟩⟩)
      · rw [List.mem_singleton] at hb; subst hb; exact ((b4 a).1 ha).1
      · rw [List.mem_append, List.mem_singleton, b4]
        constructor
        · rintro (q | q)
          · exact ⟨by omega, q.2⟩
          · subst q; exact ⟨by omega, hp, he⟩
        · intro q
          rcases Nat.lt_succ_iff_lt_or_eq.1 q.1 with c | c
          · exact .inl ⟨c, q.2⟩
          · exact .inr c
      · rcases Nat.lt_succ_iff_lt_or_eq.1 hs with c | c
        · exact b5 s c hps
        · subst c; exact Int.le_of_eq he
  · rintro _ ⟨K, rfl, h1, h2⟩
    exact gSome ⟨K, rfl, h1, h2⟩
end Go.SH
