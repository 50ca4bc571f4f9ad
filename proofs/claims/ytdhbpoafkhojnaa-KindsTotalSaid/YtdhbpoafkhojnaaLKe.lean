/-
  How the code finds whether some columns hang on one another (kinds.rankOf). Conditions: a matrix of six rows and eight columns at most, modulo 7 at most.
-/
import Derived.Test.YtdhbpoafkhojnaaLKd
import Derived.Test.YtdhbpoafkhojnaaLGg
import Derived.Test.YtdhbpoafkhojnaaSpkinds
set_option linter.unusedSimpArgs false
set_option linter.unusedVariables false
set_option linter.unusedSectionVars false
namespace Go.SH
open Go Go.AX

/-- The elements of a set below m, rising. -/
def elm (m s : Nat) : List Nat := (List.range m).filter fun i => s.testBit i
theorem elm_succ (m s : Nat) : elm (m + 1) s = if s.testBit m = true then elm m s ++ [m] else elm m s := by
  unfold elm
  rw [List.range_succ, List.filter_append]
  by_cases h : s.testBit m = true
  · simp [h]
  · simp [h]
theorem elm_len (m s : Nat) : (elm m s).length = cnt m s := by
  induction m with
  | zero => rfl
  | succ m ih =>
    rw [elm_succ, cnt]
    by_cases h : s.testBit m = true
    · rw [if_pos h, if_pos h, List.length_append, ih]; rfl
    · rw [if_neg h, if_neg h, ih]; rfl
theorem elm_els {m s : Nat} (hm : m ≤ 8) (hs : s < 2 ^ m) : elm m s = els s := by
  unfold elm els
  have : ∀ k, (List.range (m + k)).filter (fun i => s.testBit i) = (List.range m).filter (fun i => s.testBit i) := fun k => by
    induction k with
    | zero => rfl
    | succ k ih =>
      rw [← Nat.add_assoc, List.range_succ, List.filter_append, ih]
      have : s.testBit (m + k) = false := Nat.testBit_lt_two_pow (Nat.lt_of_lt_of_le hs (Nat.pow_le_pow_right (by omega) (by omega)))
      simp [this]
  have h := this (8 - m)
  rw [show m + (8 - m) = 8 by omega] at h
  exact h.symm
section
variable {p : Nat} [NeZero p]
/-- A sum over a set's elements. -/
theorem Sm_elm (s : Nat) (f : Nat → Fin p) : ∀ m, Sm (cnt m s) (fun k => f ((elm m s).getD k 0)) = Sm m (fun j => if s.testBit j = true then f j else 0)
  | 0 => rfl
  | m + 1 => by
    rw [Sm, ← Sm_elm s f m, cnt, elm_succ]
    by_cases h : s.testBit m = true
    · simp only [if_pos h]
      rw [Sm]
      have e1 : Sm (cnt m s) (fun k => f ((elm m s ++ [m]).getD k 0)) = Sm (cnt m s) (fun k => f ((elm m s).getD k 0)) := Sm_congr fun k hk => by
        rw [List.getD_eq_getElem?_getD, List.getElem?_append_left (by rw [elm_len]; exact hk), ← List.getD_eq_getElem?_getD]
      have e2 : (elm m s ++ [m]).getD (cnt m s) 0 = m := by
        rw [List.getD_eq_getElem?_getD, List.getElem?_append_right (by rw [elm_len]; exact Nat.le_refl _), elm_len, Nat.sub_self]; rfl
      rw [e1, e2]
    · simp only [if_neg h, Nat.add_zero]
      grind
theorem mul_bd7 {a b : Int} (h1 : 0 ≤ a) (h2 : a ≤ 7) (h3 : 0 ≤ b) (h4 : b ≤ 7) : 0 ≤ a * b ∧ a * b ≤ 49 := by
  refine ⟨Int.mul_nonneg h1 h3, ?_⟩
  have := Int.mul_le_mul h2 h4 h3 (by omega : (0 : Int) ≤ 7)
  omega
/-- What is one when multiplied. -/
theorem inverse_spec (hp : Fld p) (h7 : p ≤ 7) {a : Int} (ha : 0 ≤ a ∧ a < p) : Gets (kinds_inverse a p) (fun f => (0 ≤ f ∧ f < p) ∧ (cF p a ≠ 0 → cF p f * cF p a = 1)) := by
  have hp0 : 0 < p := Nat.pos_of_ne_zero (NeZero.ne p)
  have hp1 : 1 < p := by
    rcases Nat.lt_or_ge 1 p with c | c
    · exact c
    · exfalso
      have e : p = 1 := by omega
      subst e
      exact hp.one (by apply Fin.ext; omega)
  have one : ∀ b : Nat, b < p → (Int.tmod (a * b) p = 1 ↔ cF p (b : Int) * cF p a = 1) := fun b hb => by
    have hm := mul_bd7 ha.1 (by omega) (show (0 : Int) ≤ b by omega) (by omega)
    have e : cF p (Int.tmod (a * b) p) = cF p (b : Int) * cF p a := by
      rw [cF_tmod hm.1, cF_mul]; exact mulc _ _
    rw [← e, ← cF_one hp1, cF_eq (tmod_bd hm.1) ⟨by omega, by omega⟩]
  unfold kinds_inverse
  refine gBind (R := fun z : Unit ⊕ Int => match z with | .inl _ => cF p a = 0 | .inr f => (0 ≤ f ∧ f < p) ∧ (cF p a ≠ 0 → cF p f * cF p a = 1)) (gFor p (fun k (v : Int) => v = (k : Int) ∧ ∀ b : Nat, b < k → Int.tmod (a * b) p ≠ 1) (Nat.zero_le _) ⟨rfl, fun b hb => by omega⟩ ?_) ?_
  · rintro k v hk ⟨rfl, hb⟩
    refine gIte (fun h1 => ?_) fun h1 => ?_
    · have hm := mul_bd7 ha.1 (by omega) (show (0 : Int) ≤ k by omega) (by omega)
      refine gChk ⟨by omega, by omega⟩ (gIte (fun h2 => ?_) fun h2 => ?_)
      · exact gSome ⟨by omega, fun _ => (one k (by omega)).1 h2⟩
      · refine gSome ⟨by omega, by simp, fun b hb' => ?_⟩
        rcases Nat.lt_succ_iff_lt_or_eq.1 hb' with c | c
        · exact hb b c
        · subst c; exact h2
    · refine gSome ?_
      refine Classical.byContradiction fun hne => ?_
      obtain ⟨b, hb2⟩ := hp.inv _ hne
      refine hb b.val (by have := b.isLt; omega) ((one b.val b.isLt).2 ?_)
      rw [cF_fin, mulc]; exact hb2
  · rintro (_ | f) hz
    · exact gSome ⟨⟨by omega, by omega⟩, fun h => absurd hz h⟩
    · exact gSome hz

/-- The first row from rk on that is not nought in column c. -/
theorem search_spec {r n c rk : Nat} {Y : List (List Int)} (hY : MOk p r n Y) (hc : c < n) (hrk : rk ≤ r) :
    ∀ f : Int → Option (Int ⊕ Int), (∀ v : Int, f v = (chk (((v < (Y.length : Int)) → (0 ≤ v ∧ v < Y.length)) ∧ ((v < (Y.length : Int)) → (0 ≤ (c : Int) ∧ (c : Int) < ((Y.getD v.toNat []).length)))) <|
      if (v < (Y.length : Int) ∧ (Y.getD v.toNat []).getD (c : Int).toNat 0 = 0) then chk ((-9223372036854775808 ≤ (v + 1 : Int) ∧ (v + 1 : Int) ≤ 9223372036854775807)) <| some (.inl (v + 1)) else some (.inr v))) → r ≤ 6 →
    Gets (loopM f (rk : Int)) (fun v => ∃ k : Nat, v = (k : Int) ∧ rk ≤ k ∧ k ≤ r ∧ (∀ i, rk ≤ i → i < k → MF p Y i c = 0) ∧ (k < r → MF p Y k c ≠ 0)) := by
  intro f hf hr6
  have hl := hY.len
  refine gFor r (fun k (v : Int) => v = (k : Int) ∧ rk ≤ k ∧ ∀ i, rk ≤ i → i < k → MF p Y i c = 0) hrk ⟨rfl, Nat.le_refl _, fun i h1 h2 => by omega⟩ ?_
  rintro k v hk ⟨rfl, h1, h2⟩
  rw [hf]
  have hrow : k < r → (Y.getD k []).length = n := fun h => hY.row k h
  refine gChk ⟨fun h => ⟨by omega, h⟩, fun h => ⟨by omega, ?_⟩⟩ ?_
  · rw [toNat_nat, hrow (by omega)]; omega
  refine gIte (fun h3 => ?_) fun h3 => ?_
  · have hkr : k < r := by omega
    refine gChk ⟨by omega, by omega⟩ (gSome ⟨hkr, by simp, by omega, fun i a b => ?_⟩)
    rcases Nat.lt_succ_iff_lt_or_eq.1 b with q | q
    · exact h2 i a q
    · subst q
      refine (cF_eq0 (hY.bd i hkr c hc)).2 ?_
      exact h3.2
  · refine gSome ⟨k, rfl, h1, hk, h2, fun hkr => ?_⟩
    intro hz
    exact h3 ⟨by omega, (cF_eq0 (hY.bd k hkr c hc)).1 hz⟩
/-- A row's numbers from column c on, without a multiple of another row's. -/
theorem rowop_spec {r n c rk i : Nat} {Y : List (List Int)} {T : Int} (h7 : p ≤ 7) (hn8 : n ≤ 8) (hr6 : r ≤ 6) (hY : MOk p r n Y) (hc : c ≤ n) (hrk : rk < r) (hi : i < r) (hne : i ≠ rk) (hT : 0 ≤ T ∧ T < p) :
    ∀ f : List (List Int) × Int → Option ((List (List Int) × Int) ⊕ List (List Int)), (∀ v v16, f (v, v16) = (chk ((0 ≤ (i : Int) ∧ (i : Int) < v.length)) <|
      if v16 < ((v.getD (i : Int).toNat []).length : Int) then
      chk ((0 ≤ (i : Int) ∧ (i : Int) < v.length) ∧ (0 ≤ v16 ∧ v16 < ((v.getD (i : Int).toNat []).length)) ∧ (-9223372036854775808 ≤ ((p : Int) - T : Int) ∧ ((p : Int) - T : Int) ≤ 9223372036854775807) ∧ (0 ≤ (rk : Int) ∧ (rk : Int) < v.length) ∧ (0 ≤ v16 ∧ v16 < ((v.getD (rk : Int).toNat []).length)) ∧ (-9223372036854775808 ≤ (((p : Int) - T) * ((v.getD (rk : Int).toNat []).getD v16.toNat 0) : Int) ∧ (((p : Int) - T) * ((v.getD (rk : Int).toNat []).getD v16.toNat 0) : Int) ≤ 9223372036854775807) ∧ (-9223372036854775808 ≤ (((v.getD (i : Int).toNat []).getD v16.toNat 0) + (((p : Int) - T) * ((v.getD (rk : Int).toNat []).getD v16.toNat 0)) : Int) ∧ (((v.getD (i : Int).toNat []).getD v16.toNat 0) + (((p : Int) - T) * ((v.getD (rk : Int).toNat []).getD v16.toNat 0)) : Int) ≤ 9223372036854775807) ∧ (p : Int) ≠ 0) <|
      chk ((-9223372036854775808 ≤ (v16 + 1 : Int) ∧ (v16 + 1 : Int) ≤ 9223372036854775807)) <|
      some (.inl (v.set (i : Int).toNat ((v.getD (i : Int).toNat []).set v16.toNat (Int.tmod (((v.getD (i : Int).toNat []).getD v16.toNat 0) + (((p : Int) - T) * ((v.getD (rk : Int).toNat []).getD v16.toNat 0))) p)), v16 + 1))
      else some (.inr v))) →
    Gets (loopM f (Y, (c : Int))) (fun Z => MOk p r n Z ∧ ∀ a, a < r → ∀ b, b < n → MF p Z a b = if a = i ∧ c ≤ b then MF p Y a b - cF p T * MF p Y rk b else MF p Y a b) := by
  intro f hf
  refine gFor n (fun k (x : List (List Int) × Int) => x.2 = (k : Int) ∧ c ≤ k ∧ MOk p r n x.1 ∧ ∀ a, a < r → ∀ b, b < n → MF p x.1 a b = if a = i ∧ c ≤ b ∧ b < k then MF p Y a b - cF p T * MF p Y rk b else MF p Y a b) hc ⟨rfl, Nat.le_refl _, hY, fun a ha b hb => by rw [if_neg (by omega)]⟩ ?_
  rintro k ⟨v, _⟩ hk ⟨rfl, h1, h2, h3⟩
  dsimp only at h2 h3
  rw [hf]
  simp only [toNat_nat]
  have hl := h2.len
  have ei : ∀ j, (v.getD i []).getD j 0 = ent v i j := fun _ => rfl
  have er : ∀ j, (v.getD rk []).getD j 0 = ent v rk j := fun _ => rfl
  simp only [hl, h2.row i hi, h2.row rk hrk, ei, er]
  refine gChk ⟨by omega, by omega⟩ (gIte (fun h4 => ?_) fun h4 => ?_)
  · have hkn : k < n := by omega
    have bi := h2.bd i hi k hkn
    have br := h2.bd rk hrk k hkn
    have m1 := mul_bd7 (a := (p : Int) - T) (by omega) (by omega) br.1 (by omega)
    refine gChk ⟨⟨by omega, by omega⟩, ⟨by omega, by omega⟩, ⟨by omega, by omega⟩, ⟨by omega, by omega⟩, ⟨by omega, by omega⟩, ⟨by omega, by omega⟩, ⟨by omega, by omega⟩, by omega⟩ ?_
    have hpos : 0 ≤ ent v i k + ((p : Int) - T) * ent v rk k := by omega
    refine gChk ⟨by omega, by omega⟩ (gSome ⟨hkn, by simp, by omega, h2.put hi hkn (tmod_bd hpos), fun a ha b hb => ?_⟩)
    rw [MF_put h2 hi hkn]
    by_cases q : a = i ∧ b = k
    · obtain ⟨rfl, rfl⟩ := q
      rw [if_pos ⟨rfl, rfl⟩, if_pos ⟨rfl, h1, by omega⟩, cF_tmod hpos, cF_add, cF_mul, cF_sub, cF_self]
      have e1 : cF p (ent v a b) = MF p Y a b := by have := h3 a ha b hb; rw [if_neg (by omega)] at this; exact this
      have e2 : cF p (ent v rk b) = MF p Y rk b := by have := h3 rk hrk b hb; rw [if_neg (fun h => hne h.1.symm)] at this; exact this
      rw [e1, e2]; exact ro1 _ _ _
    · rw [if_neg q, h3 a ha b hb]
      by_cases q2 : a = i ∧ c ≤ b ∧ b < k
      · rw [if_pos q2, if_pos ⟨q2.1, q2.2.1, by omega⟩]
      · rw [if_neg q2, if_neg (fun h => by
          rcases Nat.lt_succ_iff_lt_or_eq.1 h.2.2 with d | d
          · exact q2 ⟨h.1, h.2.1, d⟩
          · exact q ⟨h.1, d⟩)]
  · refine gSome ⟨h2, fun a ha b hb => ?_⟩
    rw [h3 a ha b hb]
    by_cases q : a = i ∧ c ≤ b
    · rw [if_pos q, if_pos ⟨q.1, q.2, by omega⟩]
    · rw [if_neg q, if_neg (fun h => q ⟨h.1, h.2.1⟩)]
where
  ro1 (a b c : Fin p) : a + (0 - b) * c = a - b * c := by grind

/-- The columns of a set alone. -/
def cols (n s : Nat) (X : List (List Int)) (r : Nat) : List (List Int) := (List.range r).map fun i => (elm n s).map fun j => ent X i j
theorem cols_get {n s r : Nat} {X : List (List Int)} {i : Nat} (hi : i < r) : (cols n s X r).getD i [] = (elm n s).map fun j => ent X i j := by
  unfold cols
  rw [List.getD_eq_getElem?_getD, List.getElem?_map, List.getElem?_range hi]; rfl
theorem cols_ent {n s r : Nat} {X : List (List Int)} {i k : Nat} (hi : i < r) (hk : k < cnt n s) : ent (cols n s X r) i k = ent X i ((elm n s).getD k 0) := by
  unfold ent
  rw [cols_get hi]
  have hl : k < (elm n s).length := by rw [elm_len]; exact hk
  have e : (elm n s).getD k 0 = (elm n s)[k] := by rw [List.getD_eq_getElem?_getD, List.getElem?_eq_getElem hl]; rfl
  rw [e, List.getD_eq_getElem?_getD, List.getElem?_map, List.getElem?_eq_getElem hl]; rfl
theorem elm_lt {n s k : Nat} (hk : k < cnt n s) : (elm n s).getD k 0 < n := by
  have hl : k < (elm n s).length := by rw [elm_len]; exact hk
  rw [List.getD_eq_getElem?_getD, List.getElem?_eq_getElem hl]
  have := List.getElem_mem hl
  unfold elm at this
  exact List.mem_range.1 (List.mem_filter.1 this).1
theorem cols_ok {n s r : Nat} {X : List (List Int)} (hX : MOk p r n X) : MOk p r (cnt n s) (cols n s X r) :=
  ⟨by simp [cols], fun i hi => by rw [cols_get hi, List.length_map, elm_len], fun i hi k hk => by rw [cols_ent hi hk]; exact hX.bd i hi _ (elm_lt hk)⟩
set_option maxRecDepth 4000 in
/-- Elimination as the code does it: as many rows as columns just if nothing but nought is nought with all rows. -/
theorem rankOf_elim (hp : Fld p) (h7 : p ≤ 7) {r n : Nat} {X : List (List Int)} (hX : MOk p r n X) (hr6 : r ≤ 6) (hn8 : n ≤ 8) {s : Nat} (hs : s < 2 ^ n) (m : Int) :
    Gets (kinds_rankOf p m X s) (fun k => k = ((cnt n s : Nat) : Int) ↔ ∀ v, Ker r (cnt n s) (MF p (cols n s X r)) v → ∀ j, j < cnt n s → v j = 0) := by
  have hl := hX.len
  have hs8 : s < 256 := Nat.lt_of_lt_of_le hs (pow_le8 hn8)
  have hsz : kinds_size (s : Int) = some ((cnt n s : Nat) : Int) := by rw [kinds_size_nat hs8, size_of_lt hs hn8]
  have hcn : cnt n s ≤ n := cnt_le n s
  unfold kinds_rankOf
  refine gBind (R := fun Y => Y = cols n s X r) (gFor r (fun k (x : List (List Int) × Int) => x.2 = (k : Int) ∧ x.1 = cols n s X k) (Nat.zero_le _) ⟨rfl, rfl⟩ ?_) ?_
  · rintro k ⟨_, _⟩ hk ⟨rfl, rfl⟩
    dsimp only
    refine gIte (fun h1 => ?_) fun h1 => gSome (by rw [show k = r by omega])
    have hkr : k < r := by omega
    refine gChk ⟨by omega, by omega⟩ (gBind (R := fun l => l = (elm n s).map fun j => ent X k j) (gFor n (fun j (x : List Int × Int) => x.2 = (j : Int) ∧ x.1 = (elm j s).map fun j => ent X k j) (Nat.zero_le _) ⟨rfl, rfl⟩ ?_) ?_)
    · rintro j ⟨_, _⟩ hj ⟨rfl, rfl⟩
      simp only [toNat_nat, hX.row k hkr]
      refine gIte (fun h2 => ?_) fun h2 => gSome (by rw [show j = n by omega])
      have hb := bit_nat s j
      rw [toNat_nat] at hb
      refine gChk ⟨by omega, by omega⟩ (gChk (by omega) ?_)
      rw [hb]
      have hle := cnt_le j s
      refine gIte (fun h3 => ?_) fun h3 => ?_
      · have hbit : s.testBit j = true := by
          by_cases q : s.testBit j = true
          · exact q
          · rw [if_neg q] at h3; omega
        have e : (elm (j + 1) s).map (fun j => ent X k j) = (elm j s).map (fun j => ent X k j) ++ [ent X k j] := by rw [elm_succ, if_pos hbit, List.map_append]; rfl
        refine gChk (by simp [elm_len]; omega) ?_
        clear h3 hb
        have hjn : j < n := by omega
        exact gChk ⟨by omega, by omega⟩ ⟨_, rfl, hjn, by simp, e.symm⟩
      · have hbit : ¬ s.testBit j = true := fun q => h3 (if_pos q)
        have e : (elm (j + 1) s).map (fun j => ent X k j) = (elm j s).map (fun j => ent X k j) := by rw [elm_succ, if_neg hbit]
        clear h3 hb
        have hjn : j < n := by omega
        exact gChk ⟨by omega, by omega⟩ ⟨_, rfl, hjn, by simp, e.symm⟩
    · rintro _ rfl
      refine gChk (by simp [cols]; omega) (gSome ⟨hkr, by simp, ?_⟩)
      unfold cols
      rw [List.range_succ, List.map_append]; rfl
  rintro _ rfl
  have hY0 := cols_ok (s := s) hX
  refine gBind (R := fun k => k = ((cnt n s : Nat) : Int) ↔ ∀ v, Ker r (cnt n s) (MF p (cols n s X r)) v → ∀ j, j < cnt n s → v j = 0) ?_ fun k hk => gSome hk
  refine gFor (cnt n s) (fun c (x : List (List Int) × Int × Int) => ∃ rk : Nat, x.2.1 = (rk : Int) ∧ x.2.2 = (c : Int) ∧ MOk p r (cnt n s) x.1 ∧ El r (cnt n s) (MF p (cols n s X r)) (MF p x.1) rk c) (Nat.zero_le _) ⟨0, rfl, rfl, hY0, El.start _ _ _⟩ ?_
  rintro c ⟨Y, _, _⟩ hc ⟨rk, rfl, rfl, hY, hE⟩
  dsimp only at hY hE
  refine gBindE hsz ?_
  have hlY := hY.len
  have hrkr := hE.rkr
  dsimp only
  refine gIte (fun h1 => ?_) fun h1 => ?_
  rotate_left
  · refine gSome ?_
    rw [← hE.done hp (by omega)]
    constructor <;> intro h <;> omega
  have hcn' : c < cnt n s := by omega
  refine gBind (search_spec hY hcn' hrkr _ (fun v => rfl) hr6) ?_
  rintro _ ⟨k, rfl, k1, k2, k3, k4⟩
  refine gIte (fun h2 => ?_) fun h2 => ?_
  · exact gChk ⟨by omega, by omega⟩ (gSome ⟨hcn', rk, rfl, by simp, hY, hE.skip hp hcn' fun i a b => k3 i a (by omega)⟩)
  have hkr : k < r := by omega
  have hrk' : rk < r := by omega
  simp only [toNat_nat]
  have hS := hY.swap hrk' hkr
  have hMS := MF_swap hY hrk' hkr
  obtain ⟨Y1, hY1⟩ : ∃ Y1, Y1 = (Y.set rk (Y.getD k [])).set k (Y.getD rk []) := ⟨_, rfl⟩
  rw [← hY1] at hS hMS ⊢
  have hl1 := hS.len
  have b1 := hS.bd rk hrk' c hcn'
  refine gChk ⟨by omega, by omega⟩ (gChk ⟨by omega, by omega⟩ (gChk ⟨by omega, by omega⟩ (gChk ⟨by omega, by omega⟩ (gChk ⟨⟨by omega, by omega⟩, by omega, by rw [hS.row rk hrk']; omega⟩ ?_))))
  have ee : (Y1.getD rk []).getD c 0 = ent Y1 rk c := rfl
  rw [ee]
  refine gBind (inverse_spec hp h7 b1) ?_
  rintro f ⟨hf1, hf2⟩
  have hne : MF p Y1 rk c ≠ 0 := by
    rw [hMS]
    have : sw rk k rk = k := by unfold sw; split <;> simp_all
    rw [this]; exact k4 hkr
  have hf3 := hf2 hne
  refine gChk ⟨by omega, by omega⟩ ?_
  refine gBind (R := fun Z => MOk p r (cnt n s) Z ∧ ∀ a, a < r → ∀ b, b < cnt n s → MF p Z a b = if rk < a then MF p Y1 a b - (MF p Y1 a c * cF p f) * MF p Y1 rk b else MF p Y1 a b) ?_ ?_
  · refine gFor r (fun i (x : List (List Int) × Int) => x.2 = (i : Int) ∧ rk < i ∧ MOk p r (cnt n s) x.1 ∧ ∀ a, a < r → ∀ b, b < cnt n s → MF p x.1 a b = if rk < a ∧ a < i then MF p Y1 a b - (MF p Y1 a c * cF p f) * MF p Y1 rk b else MF p Y1 a b) (k0 := rk + 1) (by omega) ⟨by simp, by omega, hS, fun a ha b hb => by rw [if_neg (by omega)]⟩ ?_
    rintro i ⟨Z, _⟩ hi ⟨rfl, i1, hZ, hZ2⟩
    dsimp only at hZ hZ2 ⊢
    have hlZ := hZ.len
    refine gIte (fun h3 => ?_) fun h3 => ?_
    rotate_left
    · refine gSome ⟨hZ, fun a ha b hb => ?_⟩
      rw [hZ2 a ha b hb]
      by_cases q : rk < a
      · rw [if_pos q, if_pos ⟨q, by omega⟩]
      · rw [if_neg q, if_neg (fun h => q h.1)]
    have hir : i < r := by omega
    have bz := hZ.bd i hir c hcn'
    have m1 := mul_bd7 bz.1 (by omega) hf1.1 (by omega)
    have ez : (Z.getD i []).getD c 0 = ent Z i c := rfl
    simp only [toNat_nat, ez]
    refine gChk ⟨⟨by omega, by omega⟩, ⟨by omega, by rw [hZ.row i hir]; omega⟩, ⟨by omega, by omega⟩, by omega⟩ ?_
    have ti : cF p (Int.tmod (ent Z i c * f) p) = MF p Y1 i c * cF p f := by
      rw [cF_tmod m1.1, cF_mul]
      have := hZ2 i hir c hcn'
      rw [if_neg (by omega)] at this
      exact congrArg (· * cF p f) this
    refine gBind (rowop_spec h7 (by omega) hr6 hZ (Nat.le_of_lt hcn') hrk' hir (by omega) (tmod_bd m1.1) _ (fun v w => by simp only [toNat_nat])) ?_
    rintro W ⟨hW, hW2⟩
    refine gChk ⟨by omega, by omega⟩ (gSome ⟨hir, by simp, by omega, hW, fun a ha b hb => ?_⟩)
    rw [hW2 a ha b hb, ti]
    by_cases q : a = i
    · subst q
      have za : MF p Z a b = MF p Y1 a b := by have := hZ2 a ha b hb; rw [if_neg (by omega)] at this; exact this
      have zr : MF p Z rk b = MF p Y1 rk b := by have := hZ2 rk hrk' b hb; rw [if_neg (by omega)] at this; exact this
      have R : ∀ x y : Fin p, (if rk < a ∧ a < a + 1 then x else y) = x := fun x y => if_pos ⟨i1, by omega⟩
      rw [R, za, zr]
      by_cases q2 : c ≤ b
      · rw [if_pos ⟨rfl, q2⟩]
      · rw [if_neg (fun h => q2 h.2)]
        have lowr : MF p Y1 rk b = 0 := by
          rw [hMS]
          refine hE.low _ ?_ (sw_lt hrk' hkr hrk') b (by omega)
          unfold sw; split <;> (try split) <;> omega
        rw [lowr]; exact ro2 _ _
    · rw [if_neg (fun h => q h.1), hZ2 a ha b hb]
      by_cases q2 : rk < a ∧ a < i
      · rw [if_pos q2, if_pos ⟨q2.1, by omega⟩]
      · rw [if_neg q2, if_neg (by omega)]
  · rintro Z ⟨hZ, hZ2⟩
    refine gChk ⟨by omega, by omega⟩ (gChk ⟨by omega, by omega⟩ (gSome ⟨hcn', rk + 1, by simp, by simp, hZ, ?_⟩))
    refine hE.piv hcn' k1 hkr (M1 := MF p Y1) (t := fun a => if rk < a then MF p Y1 a c * cF p f else 0) (fun i hi j hj => hMS i j) hne (fun i hi => if_neg (by omega)) (fun i hi j hj => ?_) fun i a b => ?_
    · rw [hZ2 i hi j hj]
      by_cases q : rk < i
      · simp only [if_pos q]
      · simp only [if_neg q]; exact ro3 _ _
    · rw [hZ2 i b c hcn', if_pos a]
      exact ro4 _ hf3
where
  ro2 (a b : Fin p) : a = a - b * 0 := by grind
  ro3 (a b : Fin p) : a = a - 0 * b := by grind
  ro4 (a : Fin p) {f b : Fin p} (h : f * b = 1) : a - a * f * b = 0 := by grind
end
end Go.SH
