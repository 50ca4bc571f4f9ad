/-
  BRUALDI, GREENE: exchanges of whole sets; ladders from basis to basis; fundamental circuits; the law GreedySwap. Conditions: matroids of at most eight elements.
-/
import Derived.Test.YtcjhpcbipcdhiaaLJu
import Derived.Test.YtcjhpcbipcdhiaaLR
import Derived.Test.YtcjhpcbipcdhiaaLB
import Derived.Test.YtcjhpcbipcdhiaaSpgreedy
import Derived.Test.YtcjhpcbipcdhiaaSkGreedySwap
set_option linter.unusedSimpArgs false
set_option linter.unusedVariables false
namespace Go.SH
open Go Go.AX

theorem RkF.away {r : Nat → Nat} (h : RkF r) (P : Nat) : RkF (fun s => r (s ||| P) - r P) := by
  have pos : ∀ s, r P ≤ r (s ||| P) := fun s => h.mono _ _ (inc_or_r _ _)
  refine ⟨?_, fun s t hs => ?_, fun s i => ?_, fun s t => ?_⟩
  · simp
  · have := h.mono (s ||| P) (t ||| P) (inc_or (hs.trans (inc_or_l _ _)) (inc_or_r _ _))
    show _ - _ ≤ _ - _
    omega
  · have e1 : s ||| 2 ^ i ||| P = s ||| P ||| 2 ^ i := by rw [Nat.or_assoc, Nat.or_comm (2 ^ i), Nat.or_assoc]
    have := h.step (s ||| P) i
    have := pos s
    show _ - _ ≤ _ - _ + 1
    rw [e1]
    omega
  · have e1 : (s ||| P) ||| (t ||| P) = s ||| t ||| P := bx fun j => by
      simp only [Nat.testBit_or]; cases s.testBit j <;> cases t.testBit j <;> cases P.testBit j <;> rfl
    have e2 : (s ||| P) &&& (t ||| P) = s &&& t ||| P := bx fun j => by
      simp only [Nat.testBit_or, Nat.testBit_and]; cases s.testBit j <;> cases t.testBit j <;> cases P.testBit j <;> rfl
    have h1 := h.sub (s ||| P) (t ||| P)
    rw [e1, e2] at h1
    have := pos s
    have := pos t
    have := pos (s ||| t)
    have := pos (s &&& t)
    show _ - _ + (_ - _) ≤ _ - _ + (_ - _)
    omega
theorem Mat.basisOf {m : Nat} {B : List Nat} (h : Mat m B) {T : Nat} (hT : T < 2 ^ m) (h1 : rk m B T = cnt m T) (h2 : cnt m T = rk m B (2 ^ m - 1)) : T ∈ B := by
  obtain ⟨b, hb, hi⟩ := (h.ind_iff hT).2 h1
  have := h.full_rk b hb
  rw [inc_eq_of_cnt hi (h.lt b hb) (by omega)]
  exact hb
/-- What a set may be exchanged for. -/
structure Cnd (m : Nat) (B : List Nat) (a b x y : Nat) : Prop where
  inc : Inc y (dif b a)
  sz : size y = size x
  one : dif a x ||| y ∈ B
  two : dif b y ||| x ∈ B
/-- GREENE: for any elements of one basis there are some of the other one. -/
theorem Mat.greene {m : Nat} {B : List Nat} (h : Mat m B) {a b x : Nat} (ha : a ∈ B) (hb : b ∈ B) (hx : Inc x (dif a b)) : ∃ y, y < 2 ^ m ∧ Cnd m B a b x y := by
  have h8 := h.m8
  have h256 := pow_le8 h8
  have hal := h.lt a ha
  have hbl := h.lt b hb
  have hfull := h.eqc a ha b hb
  have hGl : dif b a < 2 ^ m := dif_lt hbl
  have hxa : Inc x a := hx.trans (inc_dif _ _)
  have hxl := hxa.lt hal
  have ind : ∀ s, Inc s a ∨ Inc s b → rk m B s = cnt m s := fun s hs => by
    rcases hs with hs | hs
    · exact (h.ind_iff (hs.lt hal)).1 ⟨a, ha, hs⟩
    · exact (h.ind_iff (hs.lt hbl)).1 ⟨b, hb, hs⟩
  have hP : rk m B (dif a x) = cnt m (dif a x) := ind _ (.inl (inc_dif _ _))
  have hQi : Inc ((a &&& b) ||| x) a := inc_or (inc_and_l _ _) hxa
  have hQ : rk m B ((a &&& b) ||| x) = cnt m ((a &&& b) ||| x) := ind _ (.inl hQi)
  have xb : ∀ j, x.testBit j = true → a.testBit j = true ∧ b.testBit j = false := fun j hj => by
    have := hx j hj
    rw [testBit_dif, Bool.and_eq_true, Bool.not_eq_true'] at this
    exact this
  have cP : cnt m a = cnt m x + cnt m (dif a x) := by
    have := cnt_split m a x
    rw [Nat.and_comm, (sub_iff_and _ _).2 hxa] at this
    exact this
  have cQ : cnt m ((a &&& b) ||| x) = cnt m (a &&& b) + cnt m x := cnt_disj (bx fun j => by
    rw [Nat.testBit_and, Nat.testBit_and, Nat.zero_testBit]
    cases hj : x.testBit j
    · simp
    · rw [(xb j hj).2]; simp)
  have cb : cnt m b = cnt m (b &&& a) + cnt m (dif b a) := cnt_split m b a
  rw [Nat.and_comm] at cb
  obtain ⟨I, i1, i2, i3⟩ := parted (G := dif b a) (by omega) (h.rkF.away (dif a x)) (h.rkF.away ((a &&& b) ||| x)) fun A hA => by
    have hAl := hA.lt hGl
    have hAb : ∀ j, A.testBit j = true → b.testBit j = true ∧ a.testBit j = false := fun j hj => by
      have := hA j hj
      rw [testBit_dif, Bool.and_eq_true, Bool.not_eq_true'] at this
      exact this
    rw [cnt8 h8 hAl]
    show cnt m A ≤ rk m B (A ||| dif a x) - rk m B (dif a x) + (rk m B (A ||| ((a &&& b) ||| x)) - rk m B ((a &&& b) ||| x))
    have s1 := h.rk_sub (A ||| dif a x) (A ||| ((a &&& b) ||| x))
    have e1 : (A ||| dif a x) &&& (A ||| ((a &&& b) ||| x)) = A ||| (a &&& b) := bx fun j => by
      have := xb j
      simp only [Nat.testBit_or, Nat.testBit_and, testBit_dif]
      cases q1 : A.testBit j <;> cases q2 : a.testBit j <;> cases q3 : b.testBit j <;> cases q4 : x.testBit j <;> simp_all
    have m1 := h.rk_mono (s := a) (t := (A ||| dif a x) ||| (A ||| ((a &&& b) ||| x))) fun j hj => by
      simp only [Nat.testBit_or, Nat.testBit_and, testBit_dif]
      cases q4 : x.testBit j <;> simp [hj]
    have r1 := ind a (.inl (Inc.refl a))
    have r2 := ind (A ||| (a &&& b)) (.inr (inc_or (fun j hj => (hAb j hj).1) (inc_and_r _ _)))
    have c2 : cnt m (A ||| (a &&& b)) = cnt m A + cnt m (a &&& b) := cnt_disj (bx fun j => by
      rw [Nat.testBit_and, Nat.testBit_and, Nat.zero_testBit]
      cases hj : A.testBit j
      · simp
      · rw [(hAb j hj).2]; simp)
    have m2 := h.rk_mono (inc_or_r A (dif a x))
    have m3 := h.rk_mono (inc_or_r A ((a &&& b) ||| x))
    rw [e1] at s1
    omega
  have hIl := i1.lt hGl
  have i2' : rk m B (I ||| dif a x) - rk m B (dif a x) = cnt m I := by rw [← cnt8 h8 hIl]; exact i2
  have i3' : rk m B (dif (dif b a) I ||| ((a &&& b) ||| x)) - rk m B ((a &&& b) ||| x) = cnt m (dif (dif b a) I) := by rw [← cnt8 h8 (dif_lt hGl)]; exact i3
  have Ib : ∀ j, I.testBit j = true → b.testBit j = true ∧ a.testBit j = false := fun j hj => by
    have := i1 j hj
    rw [testBit_dif, Bool.and_eq_true, Bool.not_eq_true'] at this
    exact this
  have e2 : dif (dif b a) I ||| ((a &&& b) ||| x) = dif b I ||| x := bx fun j => by
    have := Ib j
    simp only [Nat.testBit_or, Nat.testBit_and, testBit_dif]
    cases q1 : I.testBit j <;> cases q2 : a.testBit j <;> cases q3 : b.testBit j <;> cases q4 : x.testBit j <;> simp_all
  have cG : cnt m (dif b a) = cnt m I + cnt m (dif (dif b a) I) := by
    have := cnt_split m (dif b a) I
    rw [Nat.and_comm, (sub_iff_and _ _).2 i1] at this
    exact this
  have c3 : cnt m (I ||| dif a x) = cnt m I + cnt m (dif a x) := cnt_disj (bx fun j => by
    rw [Nat.testBit_and, testBit_dif, Nat.zero_testBit]
    cases hj : I.testBit j
    · simp
    · rw [(Ib j hj).2]; simp)
  have c4 : cnt m (dif b I ||| x) = cnt m (dif b I) + cnt m x := cnt_disj (bx fun j => by
    rw [Nat.testBit_and, testBit_dif, Nat.zero_testBit]
    cases hj : x.testBit j
    · simp
    · rw [(xb j hj).2]; simp)
  have c5 : cnt m b = cnt m I + cnt m (dif b I) := by
    have := cnt_split m b I
    rw [Nat.and_comm, (sub_iff_and _ _).2 fun j hj => (Ib j hj).1] at this
    exact this
  have m2 := h.rk_mono (inc_or_r I (dif a x))
  have m3 := h.rk_mono (inc_or_r (dif (dif b a) I) ((a &&& b) ||| x))
  rw [e2] at i3' m3
  have f1 := h.rk_mono (s := I ||| dif a x) (t := 2 ^ m - 1) fun i hi => by rw [Nat.testBit_two_pow_sub_one]; simp [bit_lt (or_lt hIl (dif_lt hal)) hi]
  have f2 := h.rk_mono (s := dif b I ||| x) (t := 2 ^ m - 1) fun i hi => by rw [Nat.testBit_two_pow_sub_one]; simp [bit_lt (or_lt (dif_lt hbl) hxl) hi]
  have g1 := h.full_rk a ha
  have hcc : cnt m I = cnt m x := by omega
  refine ⟨I, hIl, i1, by rw [size_of_lt hIl h8, size_of_lt hxl h8, hcc], ?_, ?_⟩
  · rw [Nat.or_comm]
    exact h.basisOf (or_lt hIl (dif_lt hal)) (by omega) (by omega)
  · exact h.basisOf (or_lt (dif_lt hbl) hxl) (by omega) (by omega)

theorem basis_nat {m : Nat} {B : List Nat} (h : Mat m B) (n : Int) (s : Nat) : greedy_basis n (cs B) s = some (decide (s ∈ B)) := by
  have hl := h.len
  refine Gets.eq ?_
  unfold greedy_basis
  refine gBind (BinarySearch_spec (cs B) s h.Rise (by simp; omega)) fun y hy => gSome ?_
  rw [Bool.eq_iff_iff, hy, decide_eq_true_eq, cs_mem]
theorem two_ok {m : Nat} {B : List Nat} (h : Mat m B) {a b : Nat} (ha : a ∈ B) (hb : b ∈ B) : greedy_two m (cs B) a b = some 0 := by
  unfold greedy_two
  rw [h.check]
  simp [basis_nat h, ha, hb]
theorem greedy_size_nat {a : Nat} (h : a < 256) : greedy_size (a : Int) = some ((size a : Nat) : Int) := by
  unfold greedy_size
  rw [chk_pos (by omega)]
  simp [bits_OnesCount, oc_size h]
theorem Swap_ok {m : Nat} {B : List Nat} (h : Mat m B) {a b x : Nat} (ha : a ∈ B) (hb : b ∈ B) (hx : Inc x (dif a b)) : Gets (greedy_Swap m (cs B) a b x) (fun r => r.2 = 0 ∧ ∃ y : Nat, r.1 = (y : Int) ∧ y < 2 ^ m ∧ Cnd m B a b x y ∧ ∀ z, z < y → ¬ Cnd m B a b x z) := by
  have h8 := h.m8
  have h256 := pow_le8 h8
  have hxl := hx.lt (dif_lt (h.lt a ha))
  obtain ⟨y0, hy0, hc0⟩ := h.greene ha hb hx
  unfold greedy_Swap
  refine gBindE (two_ok h ha hb) (gIte (fun q => absurd rfl q) fun _ => ?_)
  simp only [dif_nat, toNat_nat, shl_nat']
  have e0 : dif x (dif a b) = 0 := (sub_iff_dif _ _).2 hx
  rw [e0]
  refine gIte (fun q => absurd q (by rintro (q | q) <;> omega)) fun _ => gChk (by omega) ?_
  refine gBind (R := fun z => match z with | .inl _ => False | .inr r => r.2 = 0 ∧ ∃ y : Nat, r.1 = (y : Int) ∧ y < 2 ^ m ∧ Cnd m B a b x y ∧ ∀ z, z < y → ¬ Cnd m B a b x z) (gFor (2 ^ m) (fun k v => v = (k : Int) ∧ ∀ z, z < k → ¬ Cnd m B a b x z) (Nat.zero_le _) ⟨rfl, fun z hz => absurd hz (Nat.not_lt_zero z)⟩ ?_) ?_
  · rintro k _ hk ⟨rfl, hn⟩
    simp only [dif_nat, or_nat]
    refine gIte (fun h1 => ?_) fun h1 => gSome ?_
    rotate_left
    · have : k = 2 ^ m := by omega
      exact hn y0 (by omega) hc0
    have hk' : k < 2 ^ m := by omega
    have nxt : ¬ Cnd m B a b x k → ∀ z, z < k + 1 → ¬ Cnd m B a b x z := fun q z hz => by
      rcases Nat.lt_succ_iff_lt_or_eq.1 hz with d | rfl
      · exact hn z d
      · exact q
    by_cases c1 : Inc k (dif b a)
    · have z0 : dif k (dif b a) = 0 := (sub_iff_dif _ _).2 c1
      have z1 : ((0 : Nat) : Int) = 0 := rfl
      rw [z0]
      rw [if_pos z1]
      refine gBindE (greedy_size_nat (by omega)) ?_
      rw [if_pos z1]
      refine gBindE (greedy_size_nat (by omega)) ?_
      by_cases c2 : size k = size x
      · rw [if_pos ⟨z1, by omega⟩]
        refine gBindE (basis_nat h _ _) ?_
        by_cases c3 : dif a x ||| k ∈ B
        · rw [if_pos ⟨⟨z1, by omega⟩, by simp [c3]⟩]
          refine gBindE (basis_nat h _ _) ?_
          refine gIte (fun q => gSome ⟨rfl, k, rfl, hk', ?_, hn⟩) fun q => gSome ⟨hk', by simp, nxt fun hc => ?_⟩
          · exact ⟨c1, c2, c3, of_decide_eq_true q.2⟩
          · exact q ⟨⟨⟨z1, by omega⟩, by simp [c3]⟩, decide_eq_true hc.two⟩
        · rw [if_neg (by simp [c3])]
          refine gBindE rfl ?_
          refine gIte (fun q => gSome ⟨rfl, k, rfl, hk', ?_, hn⟩) fun q => gSome ⟨hk', by simp, nxt fun hc => ?_⟩
          · exact absurd q.2 (by simp)
          · exact c3 hc.one
      · rw [if_neg (fun q => c2 (by omega))]
        refine gBindE rfl ?_
        rw [if_neg (by simp)]
        refine gBindE rfl ?_
        refine gIte (fun q => gSome ⟨rfl, k, rfl, hk', ?_, hn⟩) fun q => gSome ⟨hk', by simp, nxt fun hc => ?_⟩
        · exact absurd q.2 (by simp)
        · exact c2 hc.sz
    · have z0 : ¬ ((dif k (dif b a) : Nat) : Int) = 0 := fun q => c1 ((sub_iff_dif _ _).1 (by omega))
      rw [if_neg z0]
      refine gBindE rfl ?_
      rw [if_neg z0]
      refine gBindE rfl ?_
      rw [if_neg fun q => z0 q.1]
      refine gBindE rfl ?_
      rw [if_neg fun q => z0 q.1.1]
      refine gBindE rfl ?_
      refine gIte (fun q => gSome ⟨rfl, k, rfl, hk', ?_, hn⟩) fun q => gSome ⟨hk', by simp, nxt fun hc => ?_⟩
      · exact absurd q.2 (by simp)
      · exact c1 hc.inc
  · rintro (u | rr) hz
    · exact hz.elim
    · exact gSome hz

/-! ### ladders -/
structure Lad (m : Nat) (B : List Nat) (a a1 : Nat) (O : List Nat) : Prop where
  ne : 0 < O.length
  mem : ∀ j, j < O.length → O.getD j 0 ∈ B
  fst : O.getD 0 0 = a
  lst : O.getD (O.length - 1) 0 = a1
  stp : ∀ j, j + 1 < O.length → size (dif (O.getD (j + 1) 0) (O.getD j 0)) = 1
theorem getD_app' {O : List Nat} {x j : Nat} : (O ++ [x]).getD j 0 = if j < O.length then O.getD j 0 else if j = O.length then x else 0 := by
  rw [List.getD_eq_getElem?_getD, List.getElem?_append]
  split
  · rw [← List.getD_eq_getElem?_getD]
  · rename_i h
    split
    · rename_i e; subst e; simp
    · rename_i e
      rw [List.getElem?_eq_none (by simp; omega)]; rfl
theorem size_pow {i : Nat} (h : i < 8) : size (2 ^ i) = 1 := by
  have := cnt_add (m := 8) (s := 0) h (by simp)
  rw [Nat.zero_or, cnt_zero] at this
  exact this
theorem Ladder_ok {m : Nat} {B : List Nat} (h : Mat m B) {a b : Nat} (ha : a ∈ B) (hb : b ∈ B) : Gets (greedy_Ladder m (cs B) a b) (fun r => r.2 = 0 ∧ ∃ O, r.1 = cs O ∧ Lad m B a b O ∧ O.length = cnt m (dif a b) + 1) := by
  have h8 := h.m8
  have h256 := pow_le8 h8
  unfold greedy_Ladder
  refine gBindE (two_ok h ha hb) (gIte (fun q => absurd rfl q) fun _ => ?_)
  refine gBind (R := fun o => ∃ O, o = cs O ∧ Lad m B a b O ∧ O.length = cnt m (dif a b) + 1) (gFor (cnt m (dif a b)) (fun k (x : Int × List Int) => ∃ (a1 : Nat) (O : List Nat), x.1 = (a1 : Int) ∧ x.2 = cs O ∧ a1 ∈ B ∧ Lad m B a a1 O ∧ O.length = k + 1 ∧ cnt m (dif a1 b) + k = cnt m (dif a b)) (Nat.zero_le _) ⟨a, [a], rfl, rfl, ha, ⟨by simp, fun j hj => ?_, rfl, rfl, fun j hj => ?_⟩, rfl, rfl⟩ ?_) fun o ho => gSome ⟨rfl, ho⟩
  · have : j = 0 := by simpa using hj
    subst this
    exact ha
  · simp at hj
  rintro k ⟨_, _⟩ hk ⟨a1, O, rfl, rfl, ha1, hL, hO, hc⟩
  have hal := h.lt a1 ha1
  have hbl := h.lt b hb
  have hDl : dif a1 b < 2 ^ m := dif_lt hal
  have hEl : dif b a1 < 2 ^ m := dif_lt hbl
  refine gIte (fun q => ?_) fun q => gSome ?_
  rotate_left
  · have e : a1 = b := by
      have q' : (a1 : Int) = (b : Int) := Classical.not_not.1 q
      omega
    subst e
    have e0 : cnt m (dif a1 a1) = 0 := by rw [(sub_iff_dif a1 a1).2 (Inc.refl a1), cnt_zero]
    exact ⟨O, rfl, hL, by omega⟩
  have hne : a1 ≠ b := fun e => q (by rw [e])
  have hD0 : dif a1 b ≠ 0 := fun e => by
    have hi := (sub_iff_dif _ _).1 e
    have := h.eqc a1 ha1 b hb
    exact hne (inc_eq_of_cnt hi hbl (by omega))
  have hlow := low_spec (show dif a1 b < 256 by omega) hD0
  have hbit := hlow.bit
  have hbit' := hbit
  rw [testBit_dif, Bool.and_eq_true, Bool.not_eq_true'] at hbit'
  have hom := bit_lt hal hbit'.1
  simp only [dif_nat]
  refine gChk (by omega) ?_
  simp only [hlow.neg, dif_nat]
  -- what comes in
  refine gBind (R := fun v => ∃ y : Nat, v = ((dif a1 (2 ^ lo1 (dif a1 b)) ||| 2 ^ y : Nat) : Int) ∧ b.testBit y = true ∧ a1.testBit y = false ∧ dif a1 (2 ^ lo1 (dif a1 b)) ||| 2 ^ y ∈ B) (gLoop (fun o => ∃ t : Nat, o = (t : Int) ∧ t < 256 ∧ Inc t (dif b a1) ∧ ∀ y, b.testBit y = true → a1.testBit y = false → t.testBit y = false → dif a1 (2 ^ lo1 (dif a1 b)) ||| 2 ^ y ∉ B) (fun o => o.toNat) ⟨dif b a1, rfl, by omega, Inc.refl _, fun y h1 h2 h3 => ?_⟩ ?_) ?_
  · rw [testBit_dif, h1, h2] at h3; cases h3
  · rintro _ ⟨t, rfl, ht, hti, hno⟩
    refine gIte (fun q1 => ?_) fun q1 => gSome ?_
    · have hlow2 := low_spec ht (show t ≠ 0 by omega)
      have hb2 := hti _ hlow2.bit
      rw [testBit_dif, Bool.and_eq_true, Bool.not_eq_true'] at hb2
      have hless := hlow2.less
      refine gChk (by omega) ?_
      simp only [hlow2.neg, hlow2.rest, or_nat]
      refine gBindE (basis_nat h _ _) (gIte (fun q2 => gSome ⟨lo1 t, rfl, hb2.1, hb2.2, of_decide_eq_true q2⟩) fun q2 => gChk (by omega) (gSome ⟨⟨_, rfl, by omega, (inc_dif _ _).trans hti, fun y h1 h2 h3 => ?_⟩, by simp only [toNat_nat]; omega⟩))
      rw [testBit_dif, testBit_pow] at h3
      by_cases e : lo1 t = y
      · subst e
        exact fun h7 => q2 (decide_eq_true h7)
      · rw [decide_eq_false e] at h3
        exact hno y h1 h2 (by simpa using h3)
    · have t0 : t = 0 := by omega
      subst t0
      obtain ⟨y, h1, h2, h3⟩ := h.ex a1 ha1 b hb _ hbit'.1 hbit'.2
      exact absurd h3 (hno y h1 h2 (by simp))
  rintro _ ⟨y, rfl, hy1, hy2, hy3⟩
  generalize lo1 (dif a1 b) = o at hbit hbit' hom hy3
  have hym := bit_lt hbl hy1
  have hyo : o ≠ y := fun e => by rw [e, hy2] at hbit'; cases hbit'.1
  have hcm := cnt_le m (dif a b)
  refine gChk (by rw [List.length_append, cs_len]; simp only [List.length_cons, List.length_nil]; omega) (gSome ⟨?_, _, O ++ [_], rfl, cs_app _ _, hy3, ⟨by simp, fun j hj => ?_, ?_, ?_, fun j hj => ?_⟩, by simp [hO], ?_⟩)
  · have := cnt_pos hDl hbit
    omega
  · rw [getD_app']
    rw [List.length_append, List.length_singleton] at hj
    split
    · rename_i c; exact hL.mem j c
    · rw [if_pos (by omega)]; exact hy3
  · rw [getD_app', if_pos hL.ne]; exact hL.fst
  · rw [getD_app', List.length_append, List.length_singleton, if_neg (by omega), if_pos (by omega)]
  · rw [List.length_append, List.length_singleton] at hj
    rw [getD_app', getD_app']
    rcases Nat.lt_or_ge (j + 1) O.length with c | c
    · rw [if_pos c, if_pos (by omega)]; exact hL.stp j c
    · rw [if_neg (by omega), if_pos (by omega), if_pos (by omega), show j = O.length - 1 by omega, hL.lst]
      have e : dif (dif a1 (2 ^ o) ||| 2 ^ y) a1 = 2 ^ y := bx fun i => by
        rw [testBit_dif, Nat.testBit_or, testBit_dif, testBit_pow, testBit_pow]
        by_cases d : y = i
        · subst d; simp [hy2]
        · rw [decide_eq_false d]
          cases a1.testBit i <;> simp
      rw [e]; exact size_pow (by omega)
  · have e : dif (dif a1 (2 ^ o) ||| 2 ^ y) b = dif (dif a1 b) (2 ^ o) := bx fun i => by
      simp only [testBit_dif, Nat.testBit_or, testBit_pow]
      by_cases d : y = i
      · subst d; rw [hy1, hy2]; simp
      · rw [decide_eq_false d]
        cases a1.testBit i <;> cases b.testBit i <;> cases decide (o = i) <;> rfl
    rw [e]
    have := cnt_dif hDl hbit
    omega

/-! ### fundamental circuits -/
/-- The elements of a basis that may go for another one. -/
theorem Mat.fund {m : Nat} {B : List Nat} (h : Mat m B) {a j C : Nat} (ha : a ∈ B) (hj : j < m) (haj : a.testBit j = false) (hC : C < 2 ^ m) (hb : ∀ x, C.testBit x = true ↔ x = j ∨ (a.testBit x = true ∧ dif a (2 ^ x) ||| 2 ^ j ∈ B)) : Circ m B C := by
  have hal := h.lt a ha
  have hfull := h.full_rk a ha
  have hS : a ||| 2 ^ j < 2 ^ m := or_lt hal (pow_lt hj)
  have hcS := cnt_add hj haj
  have hrS : rk m B (a ||| 2 ^ j) ≤ rk m B (2 ^ m - 1) := h.rk_mono fun i hi => by rw [Nat.testBit_two_pow_sub_one]; simp [bit_lt hS hi]
  obtain ⟨D, d1, d2, d3⟩ := h.dep_circ _ (a ||| 2 ^ j) (Nat.le_refl _) hS (by omega)
  have hDj : D.testBit j = true := by
    cases c : D.testBit j
    · exfalso
      have hDa : Inc D a := fun i hi => by
        have := d3 i hi
        rw [Nat.testBit_or, testBit_pow] at this
        by_cases e : j = i
        · subst e; rw [c] at hi; cases hi
        · rw [decide_eq_false e, Bool.or_false] at this; exact this
      have := (h.ind_iff d1).1 ⟨a, ha, hDa⟩
      have := d2.1
      omega
    · rfl
  have e : C = D := set_ext hC d1 fun x hx => by
    rw [Bool.eq_iff_iff, hb x]
    constructor
    · rintro (rfl | ⟨h1, h2⟩)
      · exact hDj
      · cases c : D.testBit x
        · exfalso
          have hDi : Inc D (dif a (2 ^ x) ||| 2 ^ j) := fun i hi => by
            have := d3 i hi
            rw [Nat.testBit_or, testBit_pow] at this
            rw [Nat.testBit_or, testBit_dif, testBit_pow, testBit_pow]
            by_cases q : x = i
            · subst q; rw [c] at hi; cases hi
            · rw [decide_eq_false q, Bool.not_false, Bool.and_true]; exact this
          have := (h.ind_iff d1).1 ⟨_, h2, hDi⟩
          have := d2.1
          omega
        · rfl
    · intro hDx
      by_cases q : x = j
      · exact .inl q
      · right
        have hax : a.testBit x = true := by
          have := d3 x hDx
          rw [Nat.testBit_or, testBit_pow, decide_eq_false (fun e => q e.symm), Bool.or_false] at this
          exact this
        refine ⟨hax, ?_⟩
        have hS' : dif a (2 ^ x) ||| 2 ^ j < 2 ^ m := or_lt (dif_lt hal) (pow_lt hj)
        have e1 : dif a (2 ^ x) ||| 2 ^ j = dif (a ||| 2 ^ j) (2 ^ x) := bx fun i => by
          rw [Nat.testBit_or, testBit_dif, testBit_dif, Nat.testBit_or, testBit_pow, testBit_pow]
          by_cases z : x = i
          · subst z; rw [decide_eq_true rfl, decide_eq_false fun e => q e.symm]; simp
          · rw [decide_eq_false z]; simp
        have c1 := cnt_dif hS (show (a ||| 2 ^ j).testBit x = true by rw [Nat.testBit_or, hax]; rfl)
        -- x is spanned by what is left of the circuit
        have s1 := h.rk_sub (dif (a ||| 2 ^ j) (2 ^ x)) D
        have e2 : dif (a ||| 2 ^ j) (2 ^ x) ||| D = a ||| 2 ^ j := bx fun i => by
          have := d3 i
          rw [Nat.testBit_or, testBit_dif, testBit_pow]
          by_cases z : x = i
          · subst z; rw [hDx, Nat.testBit_or, hax]; simp
          · rw [decide_eq_false z]
            cases w1 : (a ||| 2 ^ j).testBit i <;> cases w2 : D.testBit i <;> simp_all
        have e3 : dif (a ||| 2 ^ j) (2 ^ x) &&& D = dif D (2 ^ x) := bx fun i => by
          have := d3 i
          rw [Nat.testBit_and, testBit_dif, testBit_dif, testBit_pow]
          cases w1 : (a ||| 2 ^ j).testBit i <;> cases w2 : D.testBit i <;> cases decide (x = i) <;> simp_all
        rw [e2, e3] at s1
        have c2 := cnt_dif d1 hDx
        have c3 := d2.2 x (bit_lt d1 hDx) hDx
        have c4 := d2.1
        have c5 := h.rk_mono (s := a) (t := a ||| 2 ^ j) (inc_or_l _ _)
        have c6 := (h.ind_iff hal).1 ⟨a, ha, Inc.refl a⟩
        have c7 := h.rk_size (dif (a ||| 2 ^ j) (2 ^ x))
        rw [e1]
        exact h.basisOf (by rw [← e1]; exact hS') (by omega) (by omega)
  rw [e]; exact d2
theorem Fundamental_ok {m : Nat} {B : List Nat} (h : Mat m B) {a j : Nat} (ha : a ∈ B) (hj : j < m) (haj : a.testBit j = false) : Gets (greedy_Fundamental m (cs B) a j) (fun r => r.2 = 0 ∧ ∃ C : Nat, r.1 = (C : Int) ∧ C < 2 ^ m ∧ Circ m B C ∧ dif C a = 2 ^ j) := by
  have h8 := h.m8
  have h256 := pow_le8 h8
  have hal := h.lt a ha
  unfold greedy_Fundamental
  refine gBindE (two_ok h ha ha) (gIte (fun q => absurd rfl q) fun _ => ?_)
  simp only [toNat_nat, shl_nat', bitB, haj]
  refine gChk (fun _ => by omega) (gIte (fun q => by rcases q with q | q <;> simp at q; omega) fun _ => gChk (by omega) ?_)
  refine gBind (R := fun o => ∃ C : Nat, o = (C : Int) ∧ C < 2 ^ m ∧ ∀ x, C.testBit x = true ↔ x = j ∨ (a.testBit x = true ∧ dif a (2 ^ x) ||| 2 ^ j ∈ B)) (gLoop (fun o => ∃ (C t : Nat), o.1 = (C : Int) ∧ o.2 = (t : Int) ∧ t < 256 ∧ Inc t a ∧ C < 2 ^ m ∧ ∀ x, C.testBit x = true ↔ x = j ∨ (a.testBit x = true ∧ t.testBit x = false ∧ dif a (2 ^ x) ||| 2 ^ j ∈ B)) (fun o => o.2.toNat) ⟨2 ^ j, a, rfl, rfl, by omega, Inc.refl _, pow_lt hj, fun x => ?_⟩ ?_) ?_
  · rw [testBit_pow, decide_eq_true_eq]
    constructor
    · intro e; exact .inl e.symm
    · rintro (e | ⟨h1, h2, _⟩)
      · exact e.symm
      · rw [h1] at h2; cases h2
  · rintro ⟨_, _⟩ ⟨C, t, rfl, rfl, ht, hta, hC, hb⟩
    refine gIte (fun q1 => ?_) fun q1 => gSome ⟨C, rfl, hC, fun x => ?_⟩
    · have hlow := low_spec ht (show t ≠ 0 by omega)
      have hba := hta _ hlow.bit
      have hless := hlow.less
      have hlm := bit_lt hal hba
      simp only [hlow.neg, hlow.rest, dif_nat, or_nat]
      have hx' : ∀ x, (dif t (2 ^ lo1 t)).testBit x = false ↔ t.testBit x = false ∨ x = lo1 t := fun x => by
        rw [testBit_dif, testBit_pow]
        by_cases e : lo1 t = x
        · subst e; simp
        · rw [decide_eq_false e]
          simp [Ne.symm e]
      refine gChk (by omega) (gChk (by omega) (gBindE (basis_nat h _ _) (gIte (fun q2 => gChk (by omega) (gSome ⟨⟨_, _, rfl, rfl, by omega, (inc_dif _ _).trans hta, or_lt hC (pow_lt hlm), fun x => ?_⟩, by simp only [toNat_nat]; omega⟩)) fun q2 => gChk (by omega) (gSome ⟨⟨_, _, rfl, rfl, by omega, (inc_dif _ _).trans hta, hC, fun x => ?_⟩, by simp only [toNat_nat]; omega⟩))))
      · rw [Nat.testBit_or, testBit_pow, Bool.or_eq_true, hb, decide_eq_true_eq, hx']
        constructor
        · rintro ((e | ⟨h1, h2, h3⟩) | e)
          · exact .inl e
          · exact .inr ⟨h1, .inl h2, h3⟩
          · subst e; exact .inr ⟨hba, .inr rfl, of_decide_eq_true q2⟩
        · rintro (e | ⟨h1, h2 | h2, h3⟩)
          · exact .inl (.inl e)
          · exact .inl (.inr ⟨h1, h2, h3⟩)
          · exact .inr h2.symm
      · rw [hb, hx']
        constructor
        · rintro (e | ⟨h1, h2, h3⟩)
          · exact .inl e
          · exact .inr ⟨h1, .inl h2, h3⟩
        · rintro (e | ⟨h1, h2 | h2, h3⟩)
          · exact .inl e
          · exact .inr ⟨h1, h2, h3⟩
          · subst h2; exact absurd (decide_eq_true h3) q2
    · have : t = 0 := by omega
      subst this
      rw [hb]
      simp
  · rintro _ ⟨C, rfl, hC, hb⟩
    refine gSome ⟨rfl, C, rfl, hC, h.fund ha hj haj hC hb, bx fun x => ?_⟩
    rw [testBit_dif, testBit_pow, Bool.eq_iff_iff, Bool.and_eq_true, hb, decide_eq_true_eq, Bool.not_eq_true']
    constructor
    · rintro ⟨e | ⟨h1, _⟩, h2⟩
      · exact e.symm
      · rw [h1] at h2; cases h2
    · intro e; subst e; exact ⟨.inl rfl, haj⟩
end Go.SH
