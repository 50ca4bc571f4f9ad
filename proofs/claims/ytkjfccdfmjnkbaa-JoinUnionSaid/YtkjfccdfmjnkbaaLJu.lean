/-
  A matroid's ranks are a rank function; what join.Union computes; EDMONDS: its rank. Conditions: matroids of at most eight elements.
-/
import Derived.Test.YtkjfccdfmjnkbaaLRk
import Derived.Test.YtkjfccdfmjnkbaaLF
import Derived.Test.YtkjfccdfmjnkbaaLQ
import Derived.Test.YtkjfccdfmjnkbaaSpjoin
set_option linter.unusedSimpArgs false
set_option linter.unusedVariables false
namespace Go.SH
open Go Go.AX

theorem Mat.rkF {m : Nat} {B : List Nat} (h : Mat m B) : RkF (rk m B) where
  zero := h.rk_zero
  mono := fun s t hs => h.rk_mono hs
  step := fun s i => by
    rcases Nat.lt_or_ge i m with c | c
    · exact h.rk_step s c
    · refine rk_le.2 fun b hb => ?_
      have e : cnt m ((s ||| 2 ^ i) &&& b) = cnt m (s &&& b) := cnt_congr fun j hj => by
        rw [Nat.testBit_and, Nat.testBit_or, Nat.testBit_and, testBit_pow, decide_eq_false (by omega), Bool.or_false]
      rw [e]
      have := le_rk (m := m) (s := s) hb
      omega
  sub := h.rk_sub
theorem cnt8 {m s : Nat} (h8 : m ≤ 8) (hs : s < 2 ^ m) : cnt 8 s = cnt m s := cnt_of_lt hs h8
theorem join_size_nat {a : Nat} (h : a < 256) : join_size (a : Int) = some ((size a : Nat) : Int) := by
  unfold join_size
  rw [chk_pos (by omega)]
  simp [bits_OnesCount, oc_size h]
/-- The pairs that have come up. -/
def Dn (A B : List Nat) (k i s : Nat) : Prop := ∃ a b, ((a < k ∧ b < B.length) ∨ (a = k ∧ b < i)) ∧ s = A.getD a 0 ||| B.getD b 0
/-- The largest sets of those that have come up. -/
structure Largest (m : Nat) (D : Nat → Prop) (best : Nat) (N : List Nat) : Prop where
  le : ∀ s, D s → cnt m s ≤ best
  mem : ∀ s, s ∈ N ↔ D s ∧ cnt m s = best
  ne : 0 < best → N ≠ []
theorem Largest.some {m best : Nat} {D : Nat → Prop} {N : List Nat} (h : Largest m D best N) {s : Nat} (hs : D s) : ∃ t, t ∈ N := by
  rcases Nat.eq_zero_or_pos best with c | c
  · have := h.le s hs
    exact ⟨s, (h.mem s).2 ⟨hs, by omega⟩⟩
  · exact List.exists_mem_of_ne_nil _ (h.ne c)
theorem Largest.congr {m best : Nat} {D E : Nat → Prop} {N : List Nat} (h : Largest m D best N) (e : ∀ s, D s ↔ E s) : Largest m E best N :=
  ⟨fun s hs => h.le s ((e s).2 hs), fun s => by rw [h.mem, e], h.ne⟩
theorem Union_ok {m : Nat} {A B : List Nat} (hA : Mat m A) (hB : Mat m B) : ∃ K best, join_Union m (cs A) m (cs B) = some ((m : Int), cs K, 0) ∧ Fam m K ∧ Largest m (fun s => ∃ a b, a ∈ A ∧ b ∈ B ∧ s = a ||| b) best K := by
  have h8 := hA.m8
  have h256 := pow_le8 h8
  have hAl := hA.len
  have hBl := hB.len
  have key : Gets (join_Union m (cs A) m (cs B)) (fun r => ∃ K best, r = ((m : Int), cs K, 0) ∧ Fam m K ∧ Largest m (fun s => ∃ a b, a ∈ A ∧ b ∈ B ∧ s = a ||| b) best K) := by
    unfold join_Union
    refine gBindE hA.check (gBindE hB.check (gIte (fun q => absurd rfl q) fun _ => gIte (fun q => absurd rfl q) fun _ => gIte (fun q => absurd rfl q) fun _ => ?_))
    simp only [cs_len]
    refine gBind (R := fun o => ∃ best N, o = cs N ∧ N.length ≤ 65536 ∧ Largest m (Dn A B A.length 0) best N) (gFor A.length (fun k (x : Int × List Int × Int) => x.2.2 = (k : Int) ∧ ∃ best N, x.1 = ((best : Nat) : Int) ∧ x.2.1 = cs N ∧ N.length ≤ 256 * k ∧ Largest m (Dn A B k 0) best N) (Nat.zero_le _) ⟨rfl, 0, [], rfl, rfl, by simp, ⟨fun s ⟨a, b, h, _⟩ => by omega, fun s => by simp; rintro ⟨a, b, h, _⟩; omega, by simp⟩⟩ ?_) ?_
    · rintro k ⟨_, _, _⟩ hk ⟨rfl, best, N, rfl, rfl, hN, hL⟩
      simp only [toNat_nat, cs_get]
      refine gIte (fun h1 => gChk (by omega) ?_) fun h1 => gSome ⟨best, N, rfl, by omega, by have e : k = A.length := (by omega); subst e; exact hL⟩
      have hk' : k < A.length := by omega
      have ha := hA.lt _ (mem_getD.2 ⟨k, hk', rfl⟩)
      refine gBind (R := fun o => ∃ best N, o = (((best : Nat) : Int), cs N) ∧ N.length ≤ 256 * (k + 1) ∧ Largest m (Dn A B (k + 1) 0) best N) (gFor B.length (fun i (x : Int × List Int × Int) => x.2.2 = (i : Int) ∧ ∃ best N, x.1 = ((best : Nat) : Int) ∧ x.2.1 = cs N ∧ N.length ≤ 256 * k + i ∧ Largest m (Dn A B k i) best N) (Nat.zero_le _) ⟨rfl, best, N, rfl, rfl, by omega, hL⟩ ?_) ?_
      · rintro i ⟨_, _, _⟩ hi ⟨rfl, best, N, rfl, rfl, hN, hL⟩
        simp only [toNat_nat, cs_get, or_nat]
        refine gIte (fun h2 => gChk (by omega) ?_) fun h2 => gSome ⟨best, N, rfl, by omega, hL.congr fun s => ?_⟩
        rotate_left
        · have e : i = B.length := by omega
          subst e
          constructor
          · rintro ⟨a, b, h, hs⟩; exact ⟨a, b, by omega, hs⟩
          · rintro ⟨a, b, h, hs⟩; exact ⟨a, b, by omega, hs⟩
        have hi' : i < B.length := by omega
        have hb := hB.lt _ (mem_getD.2 ⟨i, hi', rfl⟩)
        have hlt := or_lt ha hb
        have hsz := join_size_nat (show A.getD k 0 ||| B.getD i 0 < 256 by omega)
        have hsm : size (A.getD k 0 ||| B.getD i 0) = cnt m (A.getD k 0 ||| B.getD i 0) := size_of_lt hlt h8
        have hD : ∀ s, Dn A B k (i + 1) s ↔ Dn A B k i s ∨ s = A.getD k 0 ||| B.getD i 0 := fun s => by
          constructor
          · rintro ⟨a, b, h, hs⟩
            by_cases c : a = k ∧ b = i
            · rw [c.1, c.2] at hs; exact .inr hs
            · exact .inl ⟨a, b, by omega, hs⟩
          · rintro (⟨a, b, h, hs⟩ | hs)
            · exact ⟨a, b, by omega, hs⟩
            · exact ⟨k, i, by omega, hs⟩
        rw [hsm] at hsz
        refine gJoin (R := fun v => ∃ bst M, v = (((bst : Nat) : Int), cs M) ∧ M.length ≤ 256 * k + i ∧ cnt m (A.getD k 0 ||| B.getD i 0) ≤ bst ∧ (∀ s, Dn A B k i s → cnt m s ≤ bst) ∧ (∀ s, s ∈ M ↔ Dn A B k i s ∧ cnt m s = bst) ∧ (0 < bst → M ≠ [] ∨ cnt m (A.getD k 0 ||| B.getD i 0) = bst)) ?_ ?_
        · rintro _ ⟨bst, M, rfl, hM, hle, h3, h4, h5⟩
          refine gBindE hsz (gIte (fun q => gChk (by rw [List.length_append, cs_len]; simp only [List.length_cons, List.length_nil]; omega) (gSome ⟨hi', by simp, bst, M ++ [_], rfl, cs_app _ _, by rw [List.length_append]; simp only [List.length_cons, List.length_nil]; omega, ⟨fun s hs => ?_, fun s => ?_, fun _ => by simp⟩⟩)) fun q => gSome ⟨hi', by simp, bst, M, rfl, rfl, by omega, ⟨fun s hs => ?_, fun s => ?_, fun c => (h5 c).elim id fun d => absurd (by omega) q⟩⟩)
          · rcases (hD s).1 hs with c | c
            · exact h3 s c
            · rw [c]; exact hle
          · rw [List.mem_append, List.mem_singleton, h4, hD]
            constructor
            · rintro (c | c)
              · exact ⟨.inl c.1, c.2⟩
              · exact ⟨.inr c, by rw [c]; omega⟩
            · rintro ⟨c | c, d⟩
              · exact .inl ⟨c, d⟩
              · exact .inr c
          · rcases (hD s).1 hs with c | c
            · exact h3 s c
            · rw [c]; exact hle
          · rw [h4, hD]
            constructor
            · rintro c; exact ⟨.inl c.1, c.2⟩
            · rintro ⟨c | c, d⟩
              · exact ⟨c, d⟩
              · rw [c] at d; omega
        · intro j hj
          refine gBindE hsz (gIte (fun q => hj _ ⟨cnt m (A.getD k 0 ||| B.getD i 0), [], rfl, by simp, Nat.le_refl _, fun s hs => ?_, fun s => ?_, fun _ => .inr rfl⟩) fun q => hj _ ⟨best, N, rfl, hN, by omega, hL.le, hL.mem, fun c => .inl (hL.ne c)⟩)
          · have := hL.le s hs; omega
          · constructor
            · intro q; exact absurd q List.not_mem_nil
            · rintro ⟨hs, e⟩
              have := hL.le s hs; omega
      · rintro _ ⟨bst, M, rfl, hM, hL⟩
        exact gSome ⟨hk', by simp, bst, M, rfl, rfl, hM, hL⟩
    · rintro _ ⟨best, N, rfl, hN, hL⟩
      have hD : ∀ s, Dn A B A.length 0 s ↔ ∃ a b, a ∈ A ∧ b ∈ B ∧ s = a ||| b := fun s => by
        constructor
        · rintro ⟨a, b, h, hs⟩
          exact ⟨_, _, mem_getD.2 ⟨a, by omega, rfl⟩, mem_getD.2 ⟨b, by omega, rfl⟩, hs⟩
        · rintro ⟨a, b, h1, h2, hs⟩
          obtain ⟨i, hi, rfl⟩ := mem_getD.1 h1
          obtain ⟨j, hj, rfl⟩ := mem_getD.1 h2
          exact ⟨i, j, by omega, hs⟩
      have hL := hL.congr hD
      obtain ⟨K, hK, hKf, hKm⟩ := sortU h8 N fun x hx => by
        obtain ⟨⟨a, b, h1, h2, rfl⟩, _⟩ := (hL.mem x).1 hx
        exact or_lt (hA.lt a h1) (hB.lt b h2)
      have hKl := hKf.len
      refine gChk (by simp; omega) ?_
      rw [hK]
      exact gChk (by simp; omega) (gSome ⟨K, best, rfl, hKf, ⟨hL.le, fun s => (hKm s).trans (hL.mem s), fun c => by
        obtain ⟨x, hx⟩ := List.exists_mem_of_ne_nil _ (hL.ne c)
        exact List.ne_nil_of_mem ((hKm x).2 hx)⟩⟩)
  obtain ⟨r, h1, K, best, rfl, h2, h3⟩ := key
  exact ⟨K, best, h1, h2, h3⟩
/-- EDMONDS: the rank of a union. -/
theorem union_rank {m : Nat} {A B : List Nat} (hA : Mat m A) (hB : Mat m B) {μ : Nat} (hle : ∀ s, s < 2 ^ m → μ ≤ rk m A s + rk m B s + (m - cnt m s)) : ∃ a b, a ∈ A ∧ b ∈ B ∧ μ ≤ cnt m (a ||| b) := by
  have h8 := hA.m8
  have h256 := pow_le8 h8
  have hpos : 0 < 2 ^ m := Nat.pow_pos (by omega)
  have hfull : 2 ^ m - 1 < 2 ^ m := by omega
  have hG : 2 ^ m - 1 < 2 ^ 8 := by omega
  have inG : ∀ s, Inc s (2 ^ m - 1) → s < 2 ^ m := fun s hs => hs.lt hfull
  obtain ⟨I, i1, i2, i3, i4⟩ := union_two (k := μ) hG hA.rkF hB.rkF fun s hs => by
    have hsl := inG s hs
    have h1 := hle s hsl
    have h2 := cpl_cnt (m := m) (s := s)
    have h3 : cnt 8 (dif (2 ^ m - 1) s) = cnt m (cpl m s) := cnt8 h8 (cpl_lt m s)
    omega
  have hIl := inG I i1
  obtain ⟨a, ha, hIa⟩ := (hA.ind_iff hIl).2 (by rw [i2, cnt8 h8 hIl])
  obtain ⟨J, ⟨b, hb, hJb⟩, hJ2, hJ3⟩ := hB.rk_ind (s := dif (2 ^ m - 1) I)
  refine ⟨a, b, ha, hb, ?_⟩
  have hJl := hJb.lt (hB.lt b hb)
  have hdis : I &&& J = 0 := (disj_iff I J).2 fun i hi => by
    cases hj : J.testBit i
    · rfl
    · have := hJ2 i hj
      rw [testBit_dif, hi] at this
      simp at this
  have h1 := cnt_disj (m := m) hdis
  have h2 := cnt_le_of_inc (m := m) (a := I ||| J) (b := a ||| b) (inc_or (hIa.trans (inc_or_l _ _)) (hJb.trans (inc_or_r _ _)))
  rw [cnt8 h8 hIl] at i4
  omega
theorem union_le {m : Nat} {A B : List Nat} (hA : Mat m A) (hB : Mat m B) {a b s : Nat} (ha : a ∈ A) (hb : b ∈ B) (hs : s < 2 ^ m) : cnt m (a ||| b) ≤ rk m A s + rk m B s + (m - cnt m s) := by
  have h1 := cnt_split m (a ||| b) s
  have e1 : (a ||| b) &&& s = (s &&& a) ||| (s &&& b) := Nat.eq_of_testBit_eq fun j => by
    simp only [Nat.testBit_and, Nat.testBit_or]; cases a.testBit j <;> cases b.testBit j <;> cases s.testBit j <;> rfl
  have h2 := cnt_or_and m (s &&& a) (s &&& b)
  have h3 := le_rk (m := m) (s := s) ha
  have h4 := le_rk (m := m) (s := s) hb
  have h5 := cnt_le_of_inc (m := m) (a := dif (a ||| b) s) (b := cpl m s) fun j hj => by
    rw [testBit_dif, Bool.and_eq_true, Bool.not_eq_true'] at hj
    rw [cpl_bit, hj.2]
    simpa using bit_lt (or_lt (hA.lt a ha) (hB.lt b hb)) hj.1
  have h6 := cpl_cnt (m := m) (s := s)
  rw [e1] at h1
  omega
end Go.SH
