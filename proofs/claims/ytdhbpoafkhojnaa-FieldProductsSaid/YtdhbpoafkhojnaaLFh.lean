/-
  field.Determinant as it computes. Conditions: none.
-/
import Derived.Test.YtdhbpoafkhojnaaLFc
import Derived.Test.YtdhbpoafkhojnaaLFg
import Derived.Test.YtdhbpoafkhojnaaSpfieldd
set_option linter.unusedSimpArgs false
set_option linter.unusedVariables false
set_option linter.unusedSectionVars false
namespace Go.SH
open Go Go.AX
section
variable {p : Nat} [NeZero p]
theorem dh1 {b c : Fin p} (h : 0 + b + (c + 0) = 0) : c = - b := by grind
theorem dh2 (a b c : Fin p) : a - b * c = - b * c + a := by grind
theorem dh3 (a b : Fin p) : a * 0 + b = b := by grind
theorem dh4 (s d a : Fin p) : s * a * d = s * (a * d) := by grind
variable {n m : Nat} {F : Vs p → Fin p}
/-- Any two change places. -/
theorem Alt.swap2 (h : Alt n m F) (v : Vs p) {i j : Nat} (hij : i < j) (hj : j < n) : F (fun k => v (sw i j k)) = - F v := by
  obtain ⟨A, hA⟩ : ∃ A : (Nat → Fin p) → (Nat → Fin p) → Fin p, ∀ x y, A x y = F (up (up v i x) j y) := ⟨_, fun _ _ => rfl⟩
  have hz : ∀ x, A x x = 0 := fun x => by rw [hA]; exact h.same (j - i) i j _ (by omega) (by omega) hj (by rw [up_at, up_ne _ _ (by omega), up_at])
  have hr : ∀ x y z, A x (fun j => y j + z j) = A x y + A x z := fun x y z => by rw [hA, hA, hA]; exact h.add _ hj y z
  have hl : ∀ x y z, A (fun j => y j + z j) x = A y x + A z x := fun x y z => by
    rw [hA, hA, hA, up_comm (i := i) (j := j) v (by omega) (fun j => y j + z j), up_comm (i := i) (j := j) v (by omega) y, up_comm (i := i) (j := j) v (by omega) z]; exact h.add _ (by omega) y z
  have h1 := hz fun l => v i l + v j l
  rw [hl, hr, hr, hz, hz] at h1
  have e : A (v i) (v j) = F v := by rw [hA, up_self, up_self]
  have e2 : A (v j) (v i) = F (fun k => v (sw i j k)) := by
    rw [hA]
    congr 1
    funext k
    unfold up sw
    by_cases c1 : k = j
    · rw [if_pos c1, if_pos c1]
    · by_cases c2 : k = i
      · rw [if_neg c1, if_pos c2, if_neg c1, if_pos c2]
      · rw [if_neg c1, if_neg c2, if_neg c1, if_neg c2]
  rw [e, e2] at h1
  exact dh1 h1
/-- A multiple of another taken off. -/
theorem Alt.rowop (h : Alt n m F) (v : Vs p) {i c : Nat} (hi : i < n) (hc : c < n) (hne : c ≠ i) (t : Fin p) : F (up v i fun j => v i j - t * v c j) = F v := by
  have e : (fun j => v i j - t * v c j) = fun j => - t * v c j + v i j := by funext j; exact dh2 _ _ _
  rw [e, h.lin _ i hi, up_self]
  have z : F (up v i (v c)) = 0 := by
    rcases Nat.lt_or_ge i c with q | q
    · exact h.same (c - i) i c _ (by omega) (by omega) hc (by rw [up_at, up_ne _ _ hne])
    · exact h.same (i - c) c i _ (by omega) (by omega) hi (by rw [up_at, up_ne _ _ hne])
  rw [z]; exact dh3 _ _
/-- Too many rows of too few places. -/
theorem D_low : ∀ (n c : Nat) (v : Vs p), c < n → (∀ i, c ≤ i → i < n → ∀ j, j ≤ c → v i j = 0) → D n v = 0
  | 0, c, v, h, _ => by omega
  | n + 1, c, v, h, hz => by
    rcases Nat.lt_or_ge c n with q | q
    · show Sm _ _ = _
      refine Sm_zero fun i hi => ?_
      rcases Nat.lt_or_ge i c with w | w
      · rw [D_low n (c - 1) (fun k => v (sk i k)) (by omega) fun k h1 h2 j h3 => hz _ (by unfold sk; split <;> omega) (sk_lt h2) j (by omega)]
        exact da3 _
      · rw [D_low n c (fun k => v (sk i k)) q fun k h1 h2 j h3 => hz _ (by unfold sk; split <;> omega) (sk_lt h2) j (by omega)]
        exact da3 _
    · have : c = n := by omega
      subst this
      exact (D_alt (c + 1)).zero v (i := c) (by omega) fun j hj => hz c (Nat.le_refl _) (by omega) j (by omega)
/-- A row without a multiple of another row, from a column on. -/
theorem drowop_spec {r n rk i c : Nat} {Y : List (List Int)} {T : Int} (h7 : p ≤ 7) (hn8 : n ≤ 8) (hY : MOk p r n Y) (hrk : rk < r) (hi : i < r) (hne : i ≠ rk) (hc : c ≤ n) (hT : 0 ≤ T ∧ T < p) :
    ∀ f : List (List Int) × Int → Option ((List (List Int) × Int) ⊕ List (List Int)), (∀ v v7, f (v, v7) = (if v7 < (n : Int) then
      chk ((0 ≤ (i : Int) ∧ (i : Int) < v.length) ∧ (0 ≤ v7 ∧ v7 < ((v.getD i []).length)) ∧ (-9223372036854775808 ≤ ((p : Int) - T : Int) ∧ ((p : Int) - T : Int) ≤ 9223372036854775807) ∧ (0 ≤ (rk : Int) ∧ (rk : Int) < v.length) ∧ (0 ≤ v7 ∧ v7 < ((v.getD rk []).length)) ∧ (-9223372036854775808 ≤ (((p : Int) - T) * ((v.getD rk []).getD v7.toNat 0) : Int) ∧ (((p : Int) - T) * ((v.getD rk []).getD v7.toNat 0) : Int) ≤ 9223372036854775807) ∧ (-9223372036854775808 ≤ (((v.getD i []).getD v7.toNat 0) + (((p : Int) - T) * ((v.getD rk []).getD v7.toNat 0)) : Int) ∧ (((v.getD i []).getD v7.toNat 0) + (((p : Int) - T) * ((v.getD rk []).getD v7.toNat 0)) : Int) ≤ 9223372036854775807) ∧ (p : Int) ≠ 0) <|
      chk ((-9223372036854775808 ≤ (v7 + 1 : Int) ∧ (v7 + 1 : Int) ≤ 9223372036854775807)) <|
      some (.inl (v.set i ((v.getD i []).set v7.toNat (Int.tmod (((v.getD i []).getD v7.toNat 0) + (((p : Int) - T) * ((v.getD rk []).getD v7.toNat 0))) p)), v7 + 1))
      else some (.inr v))) →
    Gets (loopM f (Y, (c : Int))) (fun Z => MOk p r n Z ∧ ∀ a, a < r → ∀ b, b < n → MF p Z a b = if a = i ∧ c ≤ b then MF p Y a b - cF p T * MF p Y rk b else MF p Y a b) := by
  intro f hf
  refine gFor n (fun k (x : List (List Int) × Int) => x.2 = (k : Int) ∧ c ≤ k ∧ MOk p r n x.1 ∧ ∀ a, a < r → ∀ b, b < n → MF p x.1 a b = if a = i ∧ c ≤ b ∧ b < k then MF p Y a b - cF p T * MF p Y rk b else MF p Y a b) hc ⟨rfl, Nat.le_refl _, hY, fun a ha b hb => by rw [if_neg (by omega)]⟩ ?_
  rintro k ⟨v, _⟩ hk ⟨rfl, h1, h2, h3⟩
  dsimp only at h2 h3
  rw [hf]
  have hl := h2.len
  have ei : ∀ j, (v.getD i []).getD j 0 = ent v i j := fun _ => rfl
  have er : ∀ j, (v.getD rk []).getD j 0 = ent v rk j := fun _ => rfl
  simp only [toNat_nat, hl, h2.row i hi, h2.row rk hrk, ei, er]
  refine gIte (fun h4 => ?_) fun h4 => ?_
  · have hkn : k < n := by omega
    have bi := h2.bd i hi k hkn
    have br := h2.bd rk hrk k hkn
    have m1 := mul_bd7 (a := (p : Int) - T) (by omega) (by omega) br.1 (by omega)
    refine gChk ⟨⟨by omega, by omega⟩, ⟨by omega, by omega⟩, ⟨by omega, by omega⟩, ⟨by omega, by omega⟩, ⟨by omega, by omega⟩, ⟨by omega, by omega⟩, ⟨by omega, by omega⟩, by omega⟩ ?_
    have hpos : 0 ≤ ent v i k + ((p : Int) - T) * ent v rk k := by omega
    refine gChk ⟨by omega, by omega⟩ (gSome ⟨hkn, by simp, by omega, h2.put hi hkn (tmod_bd hpos), fun a ha b hb => ?_⟩)
    rw [MF_put h2 hi hkn]
    by_cases q : a = i ∧ b = k
    · obtain ⟨rfl, rfl⟩ := q
      rw [if_pos ⟨rfl, rfl⟩, if_pos ⟨rfl, h1, by omega⟩, cF_tmod hpos, cF_add, cF_mul, cF_sub, cF_self]
      have e1 : cF p (ent v a b) = MF p Y a b := by have := h3 a ha b hb; rw [if_neg (by omega)] at this; exact this
      have e2 : cF p (ent v rk b) = MF p Y rk b := by have := h3 rk hrk b hb; rw [if_neg (fun h => hne h.1.symm)] at this; exact this
      rw [e1, e2]; exact fb3 _ _ 0 _
    · rw [if_neg q, h3 a ha b hb]
      by_cases q2 : a = i ∧ c ≤ b ∧ b < k
      · rw [if_pos q2, if_pos ⟨q2.1, q2.2.1, by omega⟩]
      · rw [if_neg q2, if_neg (fun h => by
          rcases Nat.lt_succ_iff_lt_or_eq.1 h.2.2 with d | d
          · exact q2 ⟨h.1, h.2.1, d⟩
          · exact q ⟨h.1, d⟩)]
  · refine gSome ⟨h2, fun a ha b hb => ?_⟩
    rw [h3 a ha b hb]
    by_cases q : a = i ∧ c ≤ b
    · rw [if_pos q, if_pos ⟨q.1, q.2, by omega⟩]
    · rw [if_neg q, if_neg (fun h => q ⟨h.1, h.2.1⟩)]
/-- The first row from c on with a number in column c. -/
theorem dsearch_spec {n c : Nat} {Y : List (List Int)} (hY : MOk p n n Y) (hc : c < n) (hn : n ≤ 8) :
    ∀ f : Int → Option (Int ⊕ Int), (∀ v : Int, f v = (chk (((v < (n : Int)) → (0 ≤ v ∧ v < Y.length)) ∧ ((v < (n : Int)) → (0 ≤ (c : Int) ∧ (c : Int) < ((Y.getD v.toNat []).length)))) <|
      if (v < (n : Int) ∧ (Y.getD v.toNat []).getD (c : Int).toNat 0 = 0) then chk ((-9223372036854775808 ≤ (v + 1 : Int) ∧ (v + 1 : Int) ≤ 9223372036854775807)) <| some (.inl (v + 1)) else some (.inr v))) →
    Gets (loopM f (c : Int)) (fun v => ∃ k : Nat, v = (k : Int) ∧ c ≤ k ∧ k ≤ n ∧ (∀ i, c ≤ i → i < k → MF p Y i c = 0) ∧ (k < n → MF p Y k c ≠ 0)) := by
  intro f hf
  have hl := hY.len
  refine gFor n (fun k (v : Int) => v = (k : Int) ∧ c ≤ k ∧ ∀ i, c ≤ i → i < k → MF p Y i c = 0) (Nat.le_of_lt hc) ⟨rfl, Nat.le_refl _, fun i h1 h2 => by omega⟩ ?_
  rintro k v hk ⟨rfl, h1, h2⟩
  rw [hf]
  have hrow : k < n → (Y.getD k []).length = n := fun h => hY.row k h
  refine gChk ⟨fun h => ⟨by omega, by omega⟩, fun h => ⟨by omega, ?_⟩⟩ ?_
  · rw [toNat_nat, hrow (by omega)]; omega
  refine gIte (fun h3 => ?_) fun h3 => ?_
  · have hkr : k < n := by omega
    refine gChk ⟨by omega, by omega⟩ (gSome ⟨hkr, by simp, by omega, fun i a b => ?_⟩)
    rcases Nat.lt_succ_iff_lt_or_eq.1 b with q | q
    · exact h2 i a q
    · subst q
      exact (cF_eq0 (hY.bd i hkr c hc)).2 h3.2
  · refine gSome ⟨k, rfl, h1, hk, h2, fun hkr => ?_⟩
    intro hz
    exact h3 ⟨by omega, (cF_eq0 (hY.bd k hkr c hc)).1 hz⟩
end
end Go.SH
