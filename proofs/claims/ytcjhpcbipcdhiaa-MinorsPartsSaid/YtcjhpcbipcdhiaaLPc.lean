/-
  The law MinorsParts. Conditions: none.
-/
import Derived.Test.YtcjhpcbipcdhiaaLPb
import Derived.Test.YtcjhpcbipcdhiaaSkMinorsParts
set_option linter.unusedSimpArgs false
set_option linter.unusedVariables false
namespace Go.SH
open Go Go.AX

theorem shl_tab2 : ∀ b : Fin 257, ∀ p : Fin 9, shlOk .i64 (b.val : Int) (p.val : Int) = true := of_decide_eq_true (by kernel_rfl)
theorem shl_ok {b p : Nat} (hb : b < 257) (hp : p ≤ 8) : shlOk .i64 (b : Int) (p : Int) = true := shl_tab2 ⟨b, hb⟩ ⟨p, by omega⟩
theorem Fam.len2 {m : Nat} {L : List Nat} (h : Fam m L) : L.length ≤ 2 ^ m := by
  rcases Nat.eq_zero_or_pos L.length with q | q
  · rw [q]; exact Nat.zero_le _
  · have h1 := h.ge (L.length - 1) (by omega)
    have h2 := h.lt _ (mem_getD.2 ⟨L.length - 1, by omega, rfl⟩)
    omega
theorem Sum_ok {p q : Nat} {A B : List Nat} (hA : Mat p A) (hB : Mat q B) (h8 : p + q ≤ 8) : ∃ K, minors_Sum p (cs A) q (cs B) = some (((p + q : Nat) : Int), cs K, 0) ∧ Fam (p + q) K ∧ IsSum p A B K := by
  have hAl := hA.toFam.len2
  have hBl := hB.toFam.len2
  have hprod : A.length * B.length ≤ 256 := by
    have h1 : A.length * B.length ≤ 2 ^ p * 2 ^ q := Nat.mul_le_mul hAl hBl
    have h2 : 2 ^ p * 2 ^ q = 2 ^ (p + q) := (Nat.pow_add 2 p q).symm
    have := pow_le8 h8
    omega
  have hA256 := hA.len
  have hB256 := hB.len
  suffices hg : Gets (minors_Sum p (cs A) q (cs B)) (fun r => ∃ K, r = (((p + q : Nat) : Int), cs K, 0) ∧ Fam (p + q) K ∧ IsSum p A B K) by
    obtain ⟨r, g1, K, rfl, g2⟩ := hg
    exact ⟨K, g1, g2⟩
  unfold minors_Sum
  refine gBindE hA.check (gBindE hB.check (gIte (fun z => absurd rfl z) fun _ => gIte (fun z => absurd rfl z) fun _ => gChk (by omega) (gIte (fun z => by omega) fun _ => ?_)))
  have bq := hB.m8
  have b256 := pow_le8 bq
  have bp := hA.m8
  refine gBind (R := fun o => ∃ N, o = cs N ∧ N.length ≤ 256 ∧ ∀ s, s ∈ N ↔ ∃ i j, i < A.length ∧ j < B.length ∧ s = mix p (A.getD i 0) (B.getD j 0))
    (gFor A.length (fun k (x : List Int × Int) => x.2 = (k : Int) ∧ ∃ N, x.1 = cs N ∧ N.length = k * B.length ∧ ∀ s, s ∈ N ↔ ∃ i j, i < k ∧ j < B.length ∧ s = mix p (A.getD i 0) (B.getD j 0)) (Nat.zero_le _) ⟨rfl, [], rfl, by simp, fun s => by simp⟩ ?_) ?_
  · rintro k ⟨_, _⟩ hk ⟨rfl, N, e1, n1, n2⟩
    simp only at e1
    subst e1
    simp only [toNat_nat, cs_len, cs_get]
    refine gIte (fun q1 => gChk (by omega) ?_) fun q1 => gSome (by have e : k = A.length := (by omega); subst e; exact ⟨N, rfl, by omega, n2⟩)
    have hk' : k < A.length := by omega
    have hkl : k * B.length + B.length ≤ A.length * B.length := by
      have := Nat.mul_le_mul_right B.length (show k + 1 ≤ A.length by omega)
      rw [Nat.add_mul, Nat.one_mul] at this
      exact this
    refine gBind (R := fun o => ∃ N, o = cs N ∧ N.length = (k + 1) * B.length ∧ ∀ s, s ∈ N ↔ ∃ i j, i < k + 1 ∧ j < B.length ∧ s = mix p (A.getD i 0) (B.getD j 0))
      (gFor B.length (fun l (x : List Int × Int) => x.2 = (l : Int) ∧ ∃ N, x.1 = cs N ∧ N.length = k * B.length + l ∧ ∀ s, s ∈ N ↔ (∃ i j, i < k ∧ j < B.length ∧ s = mix p (A.getD i 0) (B.getD j 0)) ∨ ∃ j, j < l ∧ s = mix p (A.getD k 0) (B.getD j 0)) (Nat.zero_le _) ⟨rfl, N, rfl, by omega, fun s => by rw [n2]; simp⟩ ?_) ?_
    · rintro l ⟨_, _⟩ hl ⟨rfl, N', e2, m1, m2⟩
      simp only at e2
      subst e2
      simp only [toNat_nat, cs_len, cs_get, shl_nat']
      refine gIte (fun q2 => ?_) fun q2 => gSome ⟨N', rfl, ?_, fun s => ?_⟩
      · have hl' : l < B.length := by omega
        have hb := hB.lt _ (mem_getD.2 ⟨l, hl', rfl⟩)
        rw [← Int.natCast_mul, or_nat]
        refine gChk (by omega) (gChk ⟨shl_ok (by omega) bp, by rw [List.length_append, cs_len]; simp only [List.length_cons, List.length_nil]; omega⟩ (gSome ⟨hl', by simp, N' ++ [mix p (A.getD k 0) (B.getD l 0)], by rw [← cs_app]; rfl, by simp; omega, fun s => ?_⟩))
        rw [List.mem_append, List.mem_singleton, m2]
        constructor
        · rintro ((z | ⟨j, z1, z2⟩) | z)
          · exact .inl z
          · exact .inr ⟨j, by omega, z2⟩
          · exact .inr ⟨l, by omega, z⟩
        · rintro (z | ⟨j, z1, z2⟩)
          · exact .inl (.inl z)
          · rcases Nat.lt_succ_iff_lt_or_eq.1 z1 with c | rfl
            · exact .inl (.inr ⟨j, c, z2⟩)
            · exact .inr z2
      · have e3 : l = B.length := by omega
        rw [Nat.add_mul, Nat.one_mul]; omega
      · have e3 : l = B.length := by omega
        subst e3
        rw [m2]
        constructor
        · rintro (⟨i, j, z1, z2, z3⟩ | ⟨j, z1, z2⟩)
          · exact ⟨i, j, by omega, z2, z3⟩
          · exact ⟨k, j, by omega, z1, z2⟩
        · rintro ⟨i, j, z1, z2, z3⟩
          rcases Nat.lt_succ_iff_lt_or_eq.1 z1 with c | rfl
          · exact .inl ⟨i, j, c, z2, z3⟩
          · exact .inr ⟨j, z2, z3⟩
    · rintro _ ⟨N', rfl, m1, m2⟩
      exact gSome ⟨hk', by simp, N', rfl, m1, m2⟩
  · rintro _ ⟨N, rfl, n1, n2⟩
    obtain ⟨K, k1, k2, k3⟩ := made_spec (n := p + q) h8 N (fun s hs => by
      obtain ⟨i, j, h1, h2, rfl⟩ := (n2 s).1 hs
      exact mix_lt (hA.lt _ (mem_getD.2 ⟨i, h1, rfl⟩)) (hB.lt _ (mem_getD.2 ⟨j, h2, rfl⟩))) (by omega)
    have e1 : ((p : Int) + (q : Int)) = ((p + q : Nat) : Int) := by omega
    rw [e1, k1]
    refine gChk (by omega) (gSome ⟨K, rfl, k2, fun s => ?_⟩)
    rw [k3, n2]
    constructor
    · rintro ⟨i, j, h1, h2, rfl⟩
      exact ⟨_, _, mem_getD.2 ⟨i, h1, rfl⟩, mem_getD.2 ⟨j, h2, rfl⟩, rfl⟩
    · rintro ⟨a, b, ha, hb, rfl⟩
      obtain ⟨i, i1, rfl⟩ := mem_getD.1 ha
      obtain ⟨j, j1, rfl⟩ := mem_getD.1 hb
      exact ⟨i, j, i1, j1, rfl⟩
theorem comp_two : minors_Components (4 : Nat) (cs twoB) = some ([15], 0) := by
  obtain ⟨K, k1, k2, k3, k4⟩ := Components_ok mat_two
  have all : ∀ v s, IsComp 4 twoB v s → s = 15 := fun v s hs => by
    have g : ∀ C, C < 2 ^ 4 → Circ 4 twoB C → C &&& s ≠ 0 → C &&& s = C := fun C c1 c2 c3 => (sub_iff_and _ _).2 (hs.sep C c1 c2 c3)
    have g1 := g 7 (by decide) (by decide)
    have g2 := g 11 (by decide) (by decide)
    have g3 := g 13 (by decide) (by decide)
    have g4 := g 14 (by decide) (by decide)
    have g0 : s ≠ 0 := fun e => by have := hs.mem; rw [e] at this; simp at this
    have key : ∀ s : Fin 16, (7 &&& s.val ≠ 0 → 7 &&& s.val = 7) → (11 &&& s.val ≠ 0 → 11 &&& s.val = 11) → (13 &&& s.val ≠ 0 → 13 &&& s.val = 13) → (14 &&& s.val ≠ 0 → 14 &&& s.val = 14) → s.val ≠ 0 → s.val = 15 := by decide
    exact key ⟨s, hs.lt⟩ g1 g2 g3 g4 g0
  have hF : Fam 4 [15] := ⟨by omega, by decide, rise_small (by decide)⟩
  have e : K = [15] := k2.ext hF fun s => by
    rw [List.mem_singleton]
    constructor
    · intro hs
      obtain ⟨v, _, hv⟩ := k3 s hs
      exact all v s hv
    · rintro rfl
      obtain ⟨s, g1, g2⟩ := k4 0 (by omega)
      rw [← all 0 s g2]; exact g1
  rw [k1, e]; rfl
theorem SameM (n : Int) (l : List Int) : rotalaw_SameMatroid n l n l = some true := by
  unfold rotalaw_SameMatroid
  rw [if_pos rfl, SameB]
  simp

theorem rotakeep_MinorsParts_law (n : Int) (l : List Int) (n' : Int) (l' : List Int) (hl : l.length ≤ 9223372036854775807) (hl' : l'.length ≤ 9223372036854775807) : rotakeep_MinorsParts n l n' l' = some true := by
  refine Gets.eq ?_
  unfold rotakeep_MinorsParts
  refine gBindE two_eq (gBindE comp_two (gIte (fun _ => ?_) fun z => absurd (by simp) z))
  refine gBindE (SameB _) (gIte (fun z => absurd rfl z) fun _ => ?_)
  obtain ⟨y3, e3, hy3⟩ := Components_spec n l hl
  obtain ⟨y4, e4, hy4⟩ := Components_spec n' l' hl'
  refine gBindE e3 (gBindE e4 ?_)
  rcases hy3 with ⟨z, _⟩ | ⟨z3, p, A, rfl, rfl, hA⟩
  · exact gIte (fun _ => gSome rfl) fun w => absurd (.inl z) w
  rcases hy4 with ⟨z, _⟩ | ⟨z4, q, B, rfl, rfl, hB⟩
  · exact gIte (fun _ => gSome rfl) fun w => absurd (.inr z) w
  refine gIte (fun w => absurd w (by simp [z3, z4])) fun _ => ?_
  obtain ⟨KA, a1, a2, a3, a4⟩ := Components_ok hA
  obtain ⟨KB, b1, b2, b3, b4⟩ := Components_ok hB
  have ey3 : y3 = (cs KA, 0) := Option.some.inj (e3.symm.trans a1)
  have ey4 : y4 = (cs KB, 0) := Option.some.inj (e4.symm.trans b1)
  subst ey3 ey4
  have p8 := hA.m8
  have q8 := hB.m8
  have p256 := pow_le8 p8
  have q256 := pow_le8 q8
  have hp0 : 0 < 2 ^ p := Nat.pow_pos (by omega)
  have aL := a2.len
  have bL := b2.len
  refine gBindE (axioms_Ranks_ok hA) ?_
  have comp : ∀ k, k < KA.length → ∃ v, v < p ∧ IsComp p A v (KA.getD k 0) := fun k hk => a3 _ (mem_getD.2 ⟨k, hk, rfl⟩)
  refine gBind (R := fun z => match z with | .inl x => x.2 = ((2 ^ p - 1 : Nat) : Int) ∧ x.1 = ((rk p A (2 ^ p - 1) : Nat) : Int) | .inr r => False)
    (gFor KA.length (fun k (x : Int × Int × Int) => x.2.2 = (k : Int) ∧ ∃ U : Nat, x.2.1 = (U : Int) ∧ U < 2 ^ p ∧ x.1 = ((rk p A U : Nat) : Int) ∧ ∀ x, U.testBit x = true ↔ ∃ j, j < k ∧ (KA.getD j 0).testBit x = true) (Nat.zero_le _)
      ⟨rfl, 0, rfl, hp0, by rw [hA.rk_zero]; rfl, fun x => by simp⟩ ?_) ?_
  · rintro k ⟨_, _, _⟩ hk ⟨rfl, U, u1, u2, u3, u4⟩
    simp only at u1 u3
    subst u1 u3
    simp only [toNat_nat, cs_len, cs_get, and_nat, or_nat, rkL_len]
    refine gIte (fun q1 => gChk (by omega) ?_) fun q1 => gSome ?_
    · have hk' : k < KA.length := by omega
      obtain ⟨v, hv, hc⟩ := comp k hk'
      have hdis : U &&& KA.getD k 0 = 0 := by
        rcases Nat.decEq (U &&& KA.getD k 0) 0 with c | c
        · exfalso
          obtain ⟨x, x1, x2⟩ := bit_and c
          obtain ⟨j, j1, j2⟩ := (u4 x).1 x1
          obtain ⟨u, _, hu⟩ := comp j (by omega)
          have := hu.meet hc (and_bit j2 x2)
          have := a2.rise j k j1 hk'
          omega
        · exact c
      simp only [rkL_get p A hc.lt]
      have hr1 := hA.rk_size U
      have hr2 := cnt_le p U
      have hr3 := hA.rk_size (KA.getD k 0)
      have hr4 := cnt_le p (KA.getD k 0)
      have hpart := hA.sep_part hc.lt hc.sep (or_lt u2 hc.lt)
      have e1 : (U ||| KA.getD k 0) &&& KA.getD k 0 = KA.getD k 0 := (Nat.and_comm _ _).trans ((sub_iff_and _ _).2 (inc_or_r _ _))
      have e2 : (U ||| KA.getD k 0) &&& cpl p (KA.getD k 0) = U := Nat.eq_of_testBit_eq fun x => by
        rw [Nat.testBit_and, Nat.testBit_or, cpl_bit]
        cases q1 : U.testBit x with
        | true =>
          cases q2 : (KA.getD k 0).testBit x with
          | true => exact absurd hdis (and_bit q1 q2)
          | false => simp [bit_lt u2 q1]
        | false => cases (KA.getD k 0).testBit x <;> simp
      rw [e1, e2] at hpart
      have hcl := hc.lt
      refine gIte (fun w => absurd (by rw [hdis]; rfl) w) fun _ => gChk (by omega) (gSome ⟨hk', by simp, _, rfl, or_lt u2 hc.lt, ?_, fun x => ?_⟩)
      · rw [hpart]; simp only; omega
      · rw [Nat.testBit_or, Bool.or_eq_true, u4]
        constructor
        · rintro (⟨j, j1, j2⟩ | z)
          · exact ⟨j, by omega, j2⟩
          · exact ⟨k, by omega, z⟩
        · rintro ⟨j, j1, j2⟩
          rcases Nat.lt_succ_iff_lt_or_eq.1 j1 with c | rfl
          · exact .inl ⟨j, c, j2⟩
          · exact .inr j2
    · have hU : U = 2 ^ p - 1 := set_ext u2 (full_lt p) fun x hx => by
        rw [full_bit, Bool.eq_iff_iff, u4]
        constructor
        · intro _; simpa using hx
        · intro _
          obtain ⟨s, s1, s2⟩ := a4 x hx
          obtain ⟨j, j1, rfl⟩ := mem_getD.1 s1
          exact ⟨j, by omega, s2.mem⟩
      subst hU
      exact ⟨rfl, rfl⟩
  rintro (⟨v3, v4⟩ | rr) hz
  rotate_left
  · exact hz.elim
  obtain ⟨d1, d2⟩ := hz
  simp only at d1 d2
  subst d1 d2
  refine gBindE (rotaref_All_nat p8) ?_
  simp only [toNat_nat, cs_len, cs_get, rkL_len, rkL_get p A (full_lt p)]
  have hfl := full_lt p
  refine gChk (fun _ => by omega) (gIte (fun w => absurd w (by simp)) fun _ => ?_)
  obtain ⟨g, K7, s1, s2, s3, s4, s5⟩ := Simple_ok hA
  have hS := Simple_smp hA s3 s5
  obtain ⟨L9, c1, c2⟩ := Classes_smp s4 hS
  refine gBindE s1 (gBindE (Simple_again s4 hS) (gBindE c1 (gBindE (a := true) (by rw [if_pos (by simp)]; exact SameM _ _) (gIte (fun w => absurd w (by simp [c2])) fun _ => ?_))))
  by_cases h8 : p + q ≤ 8
  rotate_left
  · have es : minors_Sum p (cs A) q (cs B) = some (0, [], 2) := by
      unfold minors_Sum
      rw [hA.check, Option.bind_some, hB.check, Option.bind_some, if_neg (by simp), if_neg (by simp), chk_pos (by omega), if_pos (by omega)]
    refine gBindE es (gIte (fun _ => gChk (fun _ => by omega) (gSome ?_)) fun w => absurd (by simp) w)
    rw [decide_eq_true_eq]
    exact ⟨rfl, by omega⟩
  obtain ⟨K, k1, k2, k3⟩ := Sum_ok hA hB h8
  have hM := sum_mat hA hB k3 k2
  obtain ⟨KS, t1, t2, t3, t4⟩ := Components_ok hM
  refine gBindE k1 (gIte (fun w => absurd rfl w) fun _ => gBindE t1 ?_)
  refine gBind (R := fun o => o = cs (KA ++ KB.map fun t => t * 2 ^ p)) (gFor KB.length (fun k (x : List Int × Int) => x.2 = (k : Int) ∧ x.1 = cs (KA ++ (KB.take k).map fun t => t * 2 ^ p)) (Nat.zero_le _) ⟨rfl, by simp⟩ ?_) ?_
  · rintro k ⟨_, _⟩ hk ⟨rfl, e5⟩
    simp only at e5
    subst e5
    simp only [toNat_nat, cs_len, cs_get, shl_nat']
    refine gIte (fun q1 => ?_) fun q1 => gSome (by rw [List.take_of_length_le (by omega)])
    have hk' : k < KB.length := by omega
    have hlt := b2.lt _ (mem_getD.2 ⟨k, hk', rfl⟩)
    refine gChk (by omega) (gChk ⟨shl_ok (by omega) p8, ?_⟩ (gSome ⟨hk', by simp, ?_⟩))
    · rw [List.length_append, cs_len, List.length_append, List.length_map, List.length_take]
      simp only [List.length_cons, List.length_nil]
      omega
    · show cs _ ++ _ = cs _
      rw [← Int.natCast_mul, cs_app, List.append_assoc]
      congr 2
      rw [List.take_add_one, List.map_append, List.getElem?_eq_getElem hk', List.getD_eq_getElem?_getD, List.getElem?_eq_getElem hk']
      rfl
  rintro _ rfl
  have posB : ∀ t, t ∈ KB → t ≠ 0 := fun t ht e => by
    obtain ⟨v, _, hv⟩ := b3 t ht
    have := hv.mem
    rw [e] at this; simp at this
  have hmem : ∀ s, s ∈ KA ++ KB.map (fun t => t * 2 ^ p) ↔ s ∈ KS := fun s => by
    rw [List.mem_append, List.mem_map]
    have z0 : ∀ t, mix p 0 t = t * 2 ^ p := fun t => by unfold mix; rw [Nat.zero_or]
    have z1 : ∀ t, mix p t 0 = t := fun t => by unfold mix; rw [Nat.zero_mul, Nat.or_zero]
    constructor
    · rintro (hs | ⟨t, ht, rfl⟩)
      · obtain ⟨v, hv, hc⟩ := a3 s hs
        have hc2 := sum_compL hA hB k3 k2 hc
        rw [z1] at hc2
        obtain ⟨s', g1, g2⟩ := t4 v (by omega)
        rw [hc2.uniq g2]; exact g1
      · obtain ⟨v, hv, hc⟩ := b3 t ht
        have hc2 := sum_compR hA hB k3 k2 hc
        rw [z0] at hc2
        obtain ⟨s', g1, g2⟩ := t4 (p + v) (by omega)
        rw [hc2.uniq g2]; exact g1
    · intro hs
      obtain ⟨v, hv, hc⟩ := t3 s hs
      rcases Nat.lt_or_ge v p with c | c
      · obtain ⟨s', g1, g2⟩ := a4 v c
        have hc2 := sum_compL hA hB k3 k2 g2
        rw [z1] at hc2
        rw [hc.uniq hc2]; exact .inl g1
      · obtain ⟨s', g1, g2⟩ := b4 (v - p) (by omega)
        have hc2 := sum_compR hA hB k3 k2 g2
        rw [z0, show p + (v - p) = v by omega] at hc2
        rw [hc.uniq hc2]; exact .inr ⟨s', g1, rfl⟩
  obtain ⟨K', f1, f2, f3⟩ := sortP h8 (KA ++ KB.map fun t => t * 2 ^ p) (fun s hs => t2.lt s ((hmem s).1 hs)) (by
    rw [List.nodup_append]
    refine ⟨a2.nodupP, ?_, fun a ha b hb e => ?_⟩
    · unfold List.Nodup
      rw [List.pairwise_map]
      exact b2.nodupP.imp fun {x y} hne he => hne (Nat.eq_of_mul_eq_mul_right hp0 he)
    · obtain ⟨t, ht, rfl⟩ := List.mem_map.1 hb
      have h1 := a2.lt a ha
      have h2 := posB t ht
      have h3 : 1 * 2 ^ p ≤ t * 2 ^ p := Nat.mul_le_mul_right _ (by omega)
      omega)
  have eK : K' = KS := f2.ext t2 fun s => by rw [f3, hmem]
  rw [f1, eK]
  refine gChk ?_ (gBindE (a := true) (by rw [if_pos rfl]; exact SameB _) (gSome (by simp)))
  rw [cs_len, List.length_append, List.length_map]
  omega
end Go.SH
