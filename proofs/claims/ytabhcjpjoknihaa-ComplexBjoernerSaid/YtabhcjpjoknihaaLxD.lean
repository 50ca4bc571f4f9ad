/-
  The law ComplexBjoerner: bases by their elements are a shelling; what is new is what is active; H is the polynomial at y = 1. Conditions: none.
-/
import Derived.Test.YtabhcjpjoknihaaLxE
import Derived.Test.YtabhcjpjoknihaaLxS
import Derived.Test.YtabhcjpjoknihaaSkComplexBjoerner
set_option linter.unusedSimpArgs false
set_option linter.unusedVariables false
namespace Go.SH
open Go Go.AX

theorem Lexical_ok {m : Nat} {B : List Nat} (h : Mat m B) : ∃ O, complex_Lexical m (cs B) = some (cs O, 0) ∧ LexO B O := by
  have hlen := h.toFam.len
  obtain ⟨h1, O, h2, h3⟩ := srt_ok (fun s hs => h.lt256 hs) h.nod
  refine ⟨O, ?_, h3⟩
  unfold complex_Lexical
  rw [h.check, Option.bind_some, if_neg (by simp), chk_pos (by simp; omega), chk_pos ⟨h1, by simp; omega⟩, h2]
theorem Lexical_bad {n : Int} {l : List Int} {c : Int} (h : axioms_Check n l = some c) (h0 : c ≠ 0) : complex_Lexical n l = some ([], c) := by
  unfold complex_Lexical
  rw [h, Option.bind_some, if_pos h0]
theorem lex_two {O : List Nat} (h : LexO (uniL 4 2) O) : O = [3, 5, 9, 6, 10, 12] := by
  refine uniq_key h.ord (by decide) fun x => ?_
  rw [h.perm.mem_iff]
  have : uniL 4 2 = [3, 5, 6, 9, 10, 12] := by decide +kernel
  rw [this]
  simp only [List.mem_cons, List.not_mem_nil, or_false]
  omega
theorem rotakeep_ComplexBjoerner_law (n : Int) (l : List Int) (hl : l.length ≤ 9223372036854775807) : rotakeep_ComplexBjoerner n l = some true := by
  refine Gets.eq ?_
  unfold rotakeep_ComplexBjoerner
  refine gBindE two_eqU ?_
  obtain ⟨O2, o1, o2⟩ := Lexical_ok (uni_mat (m := 4) (k := 2) (by omega) (by omega))
  rw [lex_two o2] at o1
  refine gBindE o1 (gIte (fun _ => ?_) fun q => absurd (by simp) q)
  refine gBindE (Same_spec _ _) (gIte (fun q => absurd (by decide) q) fun _ => ?_)
  obtain ⟨c, hc, hs⟩ := axioms_Check_spec n l hl
  rcases hs with ⟨rfl, m, B, rfl, rfl, h⟩ | ⟨h0, _⟩
  rotate_left
  · exact gBindE (Lexical_bad hc h0) (gIte (fun _ => gSome (by simp)) fun q => absurd h0 q)
  have h8 := h.m8
  have h256 := pow_le8 h8
  have hlen := h.toFam.len
  obtain ⟨O, p1, p2⟩ := Lexical_ok h
  have hol := p2.perm.length_eq
  have hOB : ∀ i, i < O.length → O.getD i 0 ∈ B := fun i hi => p2.perm.mem_iff.1 (mem_getD.2 ⟨i, hi, rfl⟩)
  refine gBindE p1 (gIte (fun q => absurd rfl q) fun _ => ?_)
  have hS := h.lex_shell p2
  have hcnt : ∀ s, s ∈ B → cnt m s = rk m B (2 ^ m - 1) := fun s hs => by
    obtain ⟨_, h2, h3⟩ := (h.in_iff s).1 hs
    omega
  have hv : Shv m B O := ⟨h.cx, p2.perm, fun s hs => by rw [h.dimR]; exact hcnt s hs⟩
  obtain ⟨y, hy, hys⟩ := Shells_spec (m : Int) (cs B) (cs O) (by simp; omega) (by simp; omega)
  have ys : y.2 = 0 ∧ y.1 = true := by
    rcases hys with ⟨_, q⟩ | ⟨q, m', L, O', e1, e2, e3, _, e4⟩
    · exact absurd ⟨m, B, O, rfl, rfl, rfl, hv⟩ q
    · have : m' = m := by omega
      subst this
      have := cs_inj e3
      subst this
      exact ⟨q, e4.2 hS⟩
  refine gBindE hy ?_
  refine gBind (Restriction_spec hv hy ys.1 ys.2) fun r hr => ?_
  obtain ⟨r0, R, r1, r2, r3⟩ := hr
  refine gBindE (H_ok h.cx) ?_
  refine gBind h.Poly_ok fun t ht => ?_
  obtain ⟨t0, t1⟩ := ht
  have hR := h.rk_size (2 ^ m - 1)
  have hRm := cnt_le m (2 ^ m - 1)
  have hdim := h.dimR
  have hRi : ∀ i, i < O.length → R.getD i 0 = dif (O.getD i 0) (ia m B (O.getD i 0)) := fun i hi => bx fun x => by
    rw [Bool.eq_iff_iff, r3 i hi x, h.lex_res p2 hi x]
  have hN : ∀ k, k ≤ rk m B (2 ^ m - 1) → hN m B k = sumN O.length (fun t => if cnt m (dif (O.getD t 0) (ia m B (O.getD t 0))) = k then 1 else 0) := fun k hk =>
    h_shell h8 (fun s hs => h.lt s hs) p2.perm (fun s hs => by rw [hdim]; exact hcnt s hs) hS (fun i hi => h.lex_res p2 hi) (by rw [hdim]; exact hk)
  have hll := hL_len m B
  rw [hdim] at hll
  have tl := t1.len
  refine gIte (fun q => ?_) fun _ => ?_
  · exfalso
    rcases q with (((((q | q) | q) | q) | q) | q) | q
    · exact q ys.1
    · exact q r0
    · exact q rfl
    · exact q t0
    · exact q ys.2
    · refine q ?_
      rw [r1]; simp only [cs_len]; omega
    · refine q ?_
      simp only; omega
  simp only [toNat_nat, cs_len, cs_get, hll, r1, r2]
  refine gChk (by omega) ?_
  refine gBind (R := fun z => z = Sum.inl (hL m B)) (gFor O.length (fun k (x : List Int × Int) => x.2 = (k : Int) ∧ x.1.length = rk m B (2 ^ m - 1) + 1 ∧ ∀ i, i ≤ rk m B (2 ^ m - 1) → x.1.getD i 0 = sumN k (fun t => if cnt m (dif (O.getD t 0) (ia m B (O.getD t 0))) = i then 1 else 0)) (Nat.zero_le _) ⟨rfl, by simp, fun i hi => by rw [List.getD_eq_getElem?_getD, List.getElem?_replicate]; split <;> rfl⟩ ?_) ?_
  · rintro k ⟨v, _⟩ hk ⟨rfl, g1, g2⟩
    simp only [toNat_nat] at g1 g2 ⊢
    refine gIte (fun c1 => gChk (by omega) ?_) fun c1 => gSome ?_
    · have hk' : k < O.length := by omega
      have hb := hOB k hk'
      have lb := h.lt _ hb
      refine gBindE (Activities_ok h hb) (gChk (fun _ => by omega) ?_)
      have lr : dif (O.getD k 0) (ia m B (O.getD k 0)) < 2 ^ m := dif_lt lb
      have cle := cnt_le_of_inc (m := m) (inc_dif (O.getD k 0) (ia m B (O.getD k 0)))
      have hbc := hcnt _ hb
      refine gIte (fun q => ?_) fun _ => gChk (by omega) ?_
      · exfalso
        rcases q with q | q
        · exact q rfl
        · refine q ?_
          simp only [dif_nat]
          rw [hRi k hk']
      rw [hRi k hk', rotaref_Size_nat, size_of_lt lr h8]
      simp only [Option.bind_some, toNat_nat]
      have hv := g2 (cnt m (dif (O.getD k 0) (ia m B (O.getD k 0)))) (by omega)
      have bnd := sumN_absT k (fun t => if cnt m (dif (O.getD t 0) (ia m B (O.getD t 0))) = cnt m (dif (O.getD k 0) (ia m B (O.getD k 0))) then 1 else 0) 1 fun i hi => by split <;> omega
      refine gChk ⟨by omega, by omega⟩ (gSome ⟨hk', by simp, by rw [List.length_set]; exact g1, fun i hi => ?_⟩)
      rw [set_getD _ (by omega)]
      simp only [sumN]
      by_cases e : i = cnt m (dif (O.getD k 0) (ia m B (O.getD k 0)))
      · rw [if_pos e, if_pos e.symm, hv, ← e]
      · rw [if_neg e, if_neg (Ne.symm e), g2 i hi, Int.add_zero]
    · have e : k = O.length := by omega
      subst e
      show Sum.inl v = Sum.inl (hL m B)
      congr 1
      refine list_ext_getD (by rw [g1, hll]) fun i hi => ?_
      rw [g1] at hi
      rw [g2 i (by omega), hL_get (by rw [hdim]; exact hi), hN i (by omega)]
  rintro _ rfl
  simp only
  refine gBindE (Same_spec _ _) (gIte (fun q => absurd (by simp) q) fun _ => ?_)
  have rows : ∀ k, k ≤ rk m B (2 ^ m - 1) → sumN (m - rk m B (2 ^ m - 1) + 1) (fun j => sumN (2 ^ m) (tS m B k j)) = (hL m B).getD (rk m B (2 ^ m - 1) - k) 0 := fun k hk => by
    rw [hL_get (by rw [hdim]; omega), hN _ (by omega), sumN_congr (h := fun j => sumN B.length (fun t => if cnt m (ia m B (B.getD t 0)) = k ∧ cnt m (ea m B (B.getD t 0)) = j then 1 else 0)) fun j _ => h.poly k j, sumN_swap, sumN_perm p2.perm fun b => if cnt m (dif b (ia m B b)) = rk m B (2 ^ m - 1) - k then 1 else 0]
    refine sumN_congr fun t ht => ?_
    have hb : B.getD t 0 ∈ B := mem_getD.2 ⟨t, ht, rfl⟩
    have hbc := hcnt _ hb
    generalize B.getD t 0 = b at hb hbc
    have lb := h.lt b hb
    have iab : Inc (ia m B b) b := fun i hi => ((ia_bit m B b i).1 hi).2.1
    have c1 := cnt_split m b (ia m B b)
    rw [Nat.and_comm, inc_and_self iab] at c1
    have eab : ea m B b &&& b = 0 := bx fun i => by
      rw [Nat.testBit_and, Nat.zero_testBit]
      cases q : (ea m B b).testBit i
      · rfl
      · rw [((ea_bit m B b i).1 q).2.1]; rfl
    have cdj := cnt_disj (m := m) eab
    have cle := cnt_le m (ea m B b ||| b)
    by_cases e : cnt m (ia m B b) = k
    · rw [if_pos (by omega), sumN_congr (h := fun j => if j = cnt m (ea m B b) then (1 : Int) else 0) fun j _ => ?_, sumN_single _ _ _ (by omega)]
      by_cases e2 : j = cnt m (ea m B b)
      · rw [if_pos e2, if_pos ⟨e, e2.symm⟩]
      · rw [if_neg e2, if_neg fun w => e2 w.2.symm]
    · rw [if_neg (by omega), sumN_congr (h := fun _ => (0 : Int)) fun j _ => if_neg fun w => e w.1, sumN_zero]
  refine gBind (R := fun z => z = Sum.inl ()) (gFor (rk m B (2 ^ m - 1) + 1) (fun k (x : Int) => x = (k : Int)) (Nat.zero_le _) rfl ?_) ?_
  · rintro k _ hk rfl
    simp only [toNat_nat]
    refine gIte (fun c1 => gChk (by omega) ?_) fun c1 => gSome rfl
    have hk' : k < rk m B (2 ^ m - 1) + 1 := by omega
    have hrow := t1.row k hk'
    simp only [hrow]
    have hb8 : ∀ i j s, s < 2 ^ m → i < rk m B (2 ^ m - 1) + 1 → j < m - rk m B (2 ^ m - 1) + 1 → -((4900 : Nat) : Int) ≤ tS m B i j s ∧ tS m B i j s ≤ ((4900 : Nat) : Int) := fun i j s hs hi hj => by
      have k1 := h.nul_le hs
      have k2 := h.rk_top hs
      unfold tS
      exact tc_le (by omega) (by omega) (by omega) (by omega)
    have hbj : ∀ j, j < m - rk m B (2 ^ m - 1) + 1 → -((1254400 : Nat) : Int) ≤ sumN (2 ^ m) (tS m B k j) ∧ sumN (2 ^ m) (tS m B k j) ≤ ((1254400 : Nat) : Int) := fun j hj => by
      have := sumN_absT (2 ^ m) (tS m B k j) 4900 fun s hs => hb8 k j s hs hk' hj
      have : 2 ^ m * 4900 ≤ 256 * 4900 := Nat.mul_le_mul_right _ h256
      omega
    refine gBind (R := fun o => o = (hL m B).getD (rk m B (2 ^ m - 1) - k) 0) (gFor (m - rk m B (2 ^ m - 1) + 1) (fun j (x : Int × Int) => x.2 = (j : Int) ∧ x.1 = sumN j (fun j => sumN (2 ^ m) (tS m B k j))) (Nat.zero_le _) ⟨rfl, rfl⟩ ?_) fun o ho => ?_
    · rintro j ⟨_, _⟩ hj ⟨rfl, rfl⟩
      simp only [toNat_nat]
      refine gIte (fun c2 => gChk (by omega) ?_) fun c2 => gSome ?_
      · have hj' : j < m - rk m B (2 ^ m - 1) + 1 := by omega
        have hval := t1.val k hk' j hj'
        have b1 := sumN_absT j (fun j => sumN (2 ^ m) (tS m B k j)) 1254400 fun i hi => hbj i (by omega)
        have b2 := hbj j hj'
        have b3 : j * 1254400 ≤ 9 * 1254400 := Nat.mul_le_mul_right _ (by omega)
        simp only [hval]
        exact gChk (by omega) (gSome ⟨hj', by omega, rfl⟩)
      · have e : j = m - rk m B (2 ^ m - 1) + 1 := by omega
        subst e
        exact rows k (by omega)
    · have e1 : (((rk m B (2 ^ m - 1) + 1 : Nat) : Int) - 1 - (k : Int)).toNat = rk m B (2 ^ m - 1) - k := by omega
      rw [e1]
      refine gChk (by omega) (gIte (fun q => absurd ho q) fun _ => gSome ⟨hk', by omega⟩)
  · rintro _ rfl
    exact gSome rfl
end Go.SH
