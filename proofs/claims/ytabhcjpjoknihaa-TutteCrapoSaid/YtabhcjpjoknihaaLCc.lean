/-
  The law TutteCrapo: bases, by what is active, are the polynomial; between what is active each set is in just one place. Conditions: none.
-/
import Derived.Test.YtabhcjpjoknihaaLCr
import Derived.Test.YtabhcjpjoknihaaLUd
import Derived.Test.YtabhcjpjoknihaaLR
import Derived.Test.YtabhcjpjoknihaaSkTutteCrapo
set_option linter.unusedSimpArgs false
set_option linter.unusedVariables false
namespace Go.SH
open Go Go.AX

theorem list_extJ {a b : List Int} (hl : a.length = b.length) (h : ∀ i, i < a.length → a.getD i 0 = b.getD i 0) : a = b :=
  List.ext_getElem hl fun i h1 h2 => by
    have := h i h1
    rw [List.getD_eq_getElem?_getD, List.getD_eq_getElem?_getD, List.getElem?_eq_getElem h1, List.getElem?_eq_getElem h2] at this
    exact this
theorem Same64_spec (a b : List Int) : rotalaw_Same_int64 a b = some (decide (a = b)) := by
  refine Gets.eq ?_
  unfold rotalaw_Same_int64
  refine gIte (fun q => gSome ?_) fun q => ?_
  · have : a ≠ b := fun e => q (by rw [e])
    simp [this]
  have hl : a.length = b.length := by omega
  refine gBind (R := fun z => match z with | .inl _ => a = b | .inr r => r = false ∧ a ≠ b) (gFor a.length (fun k (x : Int) => x = (k : Int) ∧ ∀ j, j < k → a.getD j 0 = b.getD j 0) (Nat.zero_le _) ⟨rfl, none_all⟩ ?_) ?_
  · rintro k _ hk ⟨rfl, hI⟩
    simp only [toNat_nat]
    refine gIte (fun h1 => gChk (by omega) (gIte (fun q => gSome ⟨rfl, fun e => q (by rw [e])⟩) fun q => gSome ⟨by omega, by simp, step_all hI (by omega)⟩)) fun h1 => gSome ?_
    refine list_extJ hl fun i hi => hI i (by omega)
  · rintro (u | r) hz
    · exact gSome (by simp [show a = b from hz])
    · exact gSome (by rw [hz.1]; simp [hz.2])
theorem Rows64_spec (a b : List (List Int)) : rotalaw_Rows_int64 a b = some (decide (a = b)) := by
  refine Gets.eq ?_
  unfold rotalaw_Rows_int64
  refine gIte (fun q => gSome ?_) fun q => ?_
  · have : a ≠ b := fun e => q (by rw [e])
    simp [this]
  have hl : a.length = b.length := by omega
  refine gBind (R := fun z => match z with | .inl _ => a = b | .inr r => r = false ∧ a ≠ b) (gFor a.length (fun k (x : Int) => x = (k : Int) ∧ ∀ j, j < k → a.getD j [] = b.getD j []) (Nat.zero_le _) ⟨rfl, none_all⟩ ?_) ?_
  · rintro k _ hk ⟨rfl, hI⟩
    simp only [toNat_nat, Same64_spec, Option.bind_some]
    refine gIte (fun h1 => gChk (by omega) (gIte (fun q => gSome ⟨rfl, fun e => q (by rw [e]; simp)⟩) fun q => gSome ⟨by omega, by simp, step_all hI (by simpa using q)⟩)) fun h1 => gSome ?_
    refine List.ext_getElem hl fun i h1 h2 => ?_
    have := hI i (by omega)
    rw [List.getD_eq_getElem?_getD, List.getD_eq_getElem?_getD, List.getElem?_eq_getElem h1, List.getElem?_eq_getElem h2] at this
    exact this
  · rintro (u | r) hz
    · exact gSome (by simp [show a = b from hz])
    · exact gSome (by rw [hz.1]; simp [hz.2])

theorem bit01 (s i : Nat) : iand ((s : Int) / ((2 ^ i : Nat) : Int)) 1 = if s.testBit i = true then 1 else 0 := by
  have := bit_nat s i
  rw [shr_nat] at this
  rw [show (s : Int) / ((2 ^ i : Nat) : Int) = ((s / 2 ^ i : Nat) : Int) from rfl]
  exact this
theorem mkset_succ (k : Nat) (p : Nat → Bool) : mkset (k + 1) p = mkset k p ||| (if p k = true then 2 ^ k else 0) := rfl
/-- Package tutte as it computes: what is active. -/
theorem Activities_ok {m : Nat} {B : List Nat} (h : Mat m B) {b : Nat} (hb : b ∈ B) : tutte_Activities m (cs B) b = some (((ia m B b : Nat) : Int), ((ea m B b : Nat) : Int), 0) := by
  have h8 := h.m8
  have hlen := h.toFam.len
  refine Gets.eq ?_
  unfold tutte_Activities
  rw [h.check]
  simp only [Option.bind_some, cs_len, cs_get]
  refine gIte (fun q => absurd rfl q) fun _ => ?_
  refine gBind (R := fun v : MemoB => ∀ x : Nat, (v.2 (x : Int) = true ↔ x ∈ B)) (gFor B.length (fun k (x : MemoB × Int) => x.2 = (k : Int) ∧ x.1.1 = k ∧ ∀ y : Nat, (x.1.2 (y : Int) = true ↔ ∃ j, j < k ∧ B.getD j 0 = y)) (Nat.zero_le _) ⟨rfl, rfl, fun y => ⟨fun q => Bool.noConfusion q, fun ⟨j, hj, _⟩ => absurd hj (Nat.not_lt_zero j)⟩⟩ ?_) fun v hv => ?_
  · rintro k ⟨v, _⟩ hk ⟨rfl, h1, h2⟩
    simp only at h1 h2 ⊢
    refine gIte (fun c => ?_) fun c => gSome fun x => ?_
    · refine gChk (by omega) (gChk (by omega) (gSome ⟨by omega, by omega, by simp only; omega, fun y => ?_⟩))
      simp only [toNat_nat, putB]
      by_cases d : (y : Int) = ((B.getD k 0 : Nat) : Int)
      · rw [if_pos d]
        exact ⟨fun _ => ⟨k, by omega, by omega⟩, fun _ => rfl⟩
      · rw [if_neg d, h2]
        constructor
        · rintro ⟨j, j1, j2⟩; exact ⟨j, by omega, j2⟩
        · rintro ⟨j, j1, j2⟩
          rcases Nat.lt_succ_iff_lt_or_eq.1 j1 with e | e
          · exact ⟨j, e, j2⟩
          · subst e; exact absurd (by rw [j2]) d
    · have e : k = B.length := by omega
      subst e
      rw [h2, mem_getD]
  refine gIte (fun q => absurd ((hv b).2 hb) q) fun _ => ?_
  refine gBind (R := fun o => o = (((ia m B b : Nat) : Int), ((ea m B b : Nat) : Int))) (gFor m (fun k (x : Int × Int × Int) => x = (((mkset k fun i => b.testBit i && decide (Act B b i) : Nat) : Int), ((mkset k fun i => !b.testBit i && decide (Act B b i) : Nat) : Int), (k : Int))) (Nat.zero_le _) rfl ?_) fun o ho => gSome (by rw [ho])
  rintro i _ hi rfl
  simp only [toNat_nat, shl_nat', xor_nat, bit01]
  refine gIte (fun c1 => ?_) fun c1 => gSome (by have : i = m := (by omega); subst this; rfl)
  have hi' : i < m := by omega
  refine gBind (R := fun o => o = decide (Act B b i)) (gFor i (fun k (x : Bool × Int) => x.2 = (k : Int) ∧ (x.1 = true ↔ ∀ j, j < k → b.testBit i ≠ b.testBit j → b ^^^ 2 ^ i ^^^ 2 ^ j ∉ B)) (Nat.zero_le _) ⟨rfl, ⟨fun _ => none_all, fun _ => rfl⟩⟩ ?_) fun o ho => ?_
  · rintro j ⟨v8, _⟩ hj ⟨rfl, h1⟩
    simp only [toNat_nat, shl_nat', xor_nat, bit01] at h1 ⊢
    refine gIte (fun c2 => gChk ⟨by omega, by omega, fun _ => by omega, fun _ => by omega⟩ (gIte (fun c3 => gSome ⟨by omega, by simp, ⟨fun q => (by cases q), fun q => ?_⟩⟩) fun c3 => gSome ⟨by omega, by simp, ?_⟩)) fun c2 => gSome ?_
    · exfalso
      obtain ⟨d1, d2⟩ := c3
      refine q j (by omega) (fun e => d1 (by rw [e])) ((hv _).1 d2)
    · rw [h1]
      constructor
      · exact fun q => step_all q fun e e2 => c3 ⟨fun w => e (by
          cases z : b.testBit i <;> cases z2 : b.testBit j <;> simp [z, z2] at w ⊢), (hv _).2 e2⟩
      · exact fun q k hk => q k (by omega)
    · have e : j = i := by omega
      subst e
      show v8 = decide (Act B b j)
      rw [Bool.eq_iff_iff, h1, decide_eq_true_eq]
      exact Iff.rfl
  · subst ho
    by_cases d : Act B b i
    · refine gIte (fun q => absurd (decide_eq_true d) q) fun _ => gChk (by omega) ?_
      cases z : b.testBit i with
      | true =>
        rw [if_pos rfl, if_pos rfl]
        refine gChk (by omega) (gSome ⟨hi', ?_⟩)
        rw [or_nat, mkset_succ, mkset_succ]
        simp only [z, d, decide_true, Bool.and_self, Bool.not_true, Bool.false_and, if_true, Bool.false_eq_true, if_false, Nat.or_zero]
        rfl
      | false =>
        rw [if_neg (by simp)]
        refine gChk (by omega) (gSome ⟨hi', ?_⟩)
        rw [or_nat, mkset_succ, mkset_succ]
        simp only [z, d, decide_true, Bool.and_self, Bool.not_false, Bool.false_and, if_true, Bool.false_eq_true, if_false, Nat.or_zero]
        rfl
    · refine gIte (fun _ => gSome ⟨hi', ?_⟩) fun q => absurd (decide_eq_false d) (by simpa using q)
      rw [mkset_succ, mkset_succ]
      simp only [d, decide_false, Bool.and_false, Bool.false_eq_true, if_false, Nat.or_zero]
      rfl
theorem two_eqU : rotakeep_two = some (((4 : Nat) : Int), cs (uniL 4 2)) := by
  rw [show uniL 4 2 = [3, 5, 6, 9, 10, 12] from by decide +kernel]; rfl
theorem uni_act : ia 4 (uniL 4 2) 3 = 3 ∧ ea 4 (uniL 4 2) 3 = 0 := by decide +kernel
theorem ContainsOne (l : List Int) (hl : l.length < 2 ^ 60) (h : ∀ k, k < l.length → l.getD k 0 = 1) : slices_ContainsFunc_int_int l (fun x0 => rotakeep_TutteCrapo_1 x0) = some false := by
  refine Gets.eq ?_
  unfold slices_ContainsFunc_int_int slices_IndexFunc_int_int
  refine gBind (R := fun r : Int => r = -1) (gBind (R := fun z => match z with | .inl _ => True | .inr _ => False) (gFor l.length (fun k v => v = (k : Int)) (Nat.zero_le _) rfl ?_) ?_) fun r hr => gSome (by rw [hr]; rfl)
  · rintro k _ hk rfl
    simp only [toNat_nat]
    refine gIte (fun h1 => gChk (by omega) ?_) fun h1 => gSome trivial
    rw [h k (by omega)]
    unfold rotakeep_TutteCrapo_1
    simp only [Option.bind_some]
    exact gIte (fun q => absurd q (by decide)) fun _ => gSome ⟨by omega, by simp⟩
  · rintro (u | rr) hz
    · exact gSome rfl
    · exact hz.elim

theorem rotakeep_TutteCrapo_law (n : Int) (l : List Int) (hl : l.length ≤ 9223372036854775807) : rotakeep_TutteCrapo n l = some true := by
  refine Gets.eq ?_
  unfold rotakeep_TutteCrapo
  refine gBindE two_eqU ?_
  have hA := Activities_ok (uni_mat (m := 4) (k := 2) (by omega) (by omega)) (b := 3) (mem_uniL.2 ⟨by omega, by decide⟩)
  rw [uni_act.1, uni_act.2] at hA
  refine gBindE hA ?_
  refine gIte (fun q => absurd q (by simp)) fun _ => ?_
  obtain ⟨c, hc, hs⟩ := axioms_Check_spec n l hl
  rcases hs with ⟨rfl, m, B, rfl, rfl, h⟩ | ⟨h0, _⟩
  rotate_left
  · exact gBindE (Poly_bad hc h0) (gIte (fun _ => gSome (by simp)) fun q => absurd h0 q)
  have h8 := h.m8
  have h256 := pow_le8 h8
  have hpos : 0 < 2 ^ m := Nat.pow_pos (by omega)
  have hlen := h.toFam.len
  have hR := h.rk_size (2 ^ m - 1)
  have hRm := cnt_le m (2 ^ m - 1)
  refine gBind h.Poly_ok fun r hr => ?_
  obtain ⟨r0, r1⟩ := hr
  generalize hRe : rk m B (2 ^ m - 1) = R at *
  refine gIte (fun q => absurd r0 q) fun _ => gChk (by rw [r1.len]; omega) ?_
  have e0 : ((r.1.length : Nat) : Int).toNat = R + 1 := by rw [toNat_nat, r1.len]
  simp only [e0]
  refine gBind (R := fun o => Mx o (R + 1) (m - R + 1) (fun _ _ => 0)) (gFor (R + 1) (fun k (x : List (List Int) × Int) => x.2 = (k : Int) ∧ Mx x.1 k (m - R + 1) (fun _ _ => 0)) (Nat.zero_le _) ⟨rfl, ⟨rfl, fun i hi => absurd hi (Nat.not_lt_zero i), fun i hi => absurd hi (Nat.not_lt_zero i)⟩⟩ ?_) fun t0 ht0 => ?_
  · rintro k ⟨t1, _⟩ hk ⟨rfl, h1⟩
    simp only at h1 ⊢
    refine gIte (fun c => ?_) fun c => gSome (by have : k = R + 1 := (by omega); subst this; exact h1)
    have hrow := r1.row k (by omega)
    simp only [toNat_nat, hrow]
    refine gChk ⟨by rw [r1.len]; omega, by omega, by omega⟩ (gChk (by rw [h1.len]) (gChk (by omega) (gSome ⟨by omega, by omega, ?_⟩)))
    have app : ∀ i, (t1 ++ [List.replicate (m - R + 1) (0 : Int)]).getD i [] = if i < k then t1.getD i [] else if i = k then List.replicate (m - R + 1) 0 else [] := fun i => by
      rw [List.getD_eq_getElem?_getD, List.getD_eq_getElem?_getD, List.getElem?_append, h1.len]
      by_cases d : i < k
      · rw [if_pos d, if_pos d]
      · rw [if_neg d, if_neg d]
        by_cases e : i = k
        · subst e; simp
        · rw [if_neg e, List.getElem?_eq_none (by simp; omega)]; rfl
    refine ⟨by simp [h1.len], fun i hi => ?_, fun i hi j hj => ?_⟩
    · rw [app]
      by_cases d : i < k
      · rw [if_pos d]; exact h1.row i d
      · rw [if_neg d, if_pos (by omega)]; simp
    · rw [app]
      by_cases d : i < k
      · rw [if_pos d]; exact h1.val i d j hj
      · rw [if_neg d, if_pos (by omega)]; simp [List.getD_eq_getElem?_getD, List.getElem?_replicate, hj]
  refine gChk (by rw [ht0.len]) ?_
  simp only [toNat_nat, shl_nat', cs_len, cs_get]
  refine gChk (by omega) ?_
  refine gBind (R := fun z => ∃ v6 v7, z = Sum.inl (v6, v7) ∧ v6 = r.1 ∧ v7.length = 2 ^ m ∧ ∀ S, S < 2 ^ m → v7.getD S 0 = 1) (gFor B.length (fun k (x : List (List Int) × List Int × Int) => x.2.2 = (k : Int) ∧ Mx x.1 (R + 1) (m - R + 1) (fun i j => sumN k (fun t => if cnt m (ia m B (B.getD t 0)) = i ∧ cnt m (ea m B (B.getD t 0)) = j then 1 else 0)) ∧ x.2.1.length = 2 ^ m ∧ ∀ S, S < 2 ^ m → x.2.1.getD S 0 = sumN k (fun t => if Btw m B (B.getD t 0) S then 1 else 0)) (Nat.zero_le _) ⟨rfl, ht0, by simp, fun S hS => by simp [List.getD_eq_getElem?_getD, List.getElem?_replicate, hS, sumN]⟩ ?_) ?_
  · rintro k ⟨v3, v4, _⟩ hk ⟨rfl, h1, h2, h3⟩
    simp only [toNat_nat] at h1 h2 h3 ⊢
    refine gIte (fun c1 => gChk (by omega) ?_) fun c1 => gSome ?_
    · have hk' : k < B.length := by omega
      have hb : B.getD k 0 ∈ B := mem_getD.2 ⟨k, hk', rfl⟩
      obtain ⟨b1, b2, b3⟩ := (h.in_iff _).1 hb
      refine gBindE (Activities_ok h hb) ?_
      obtain ⟨b, hbe⟩ : ∃ b, B.getD k 0 = b := ⟨_, rfl⟩
      rw [hbe] at hb b1 b2 b3
      rw [hRe] at b3
      simp only [hbe]
      have lia : ia m B b < 2 ^ m := mkset_lt _ _
      have lea : ea m B b < 2 ^ m := mkset_lt _ _
      have iab : Inc (ia m B b) b := fun i hi => ((ia_bit m B b i).1 hi).2.1
      have eab : ea m B b &&& b = 0 := bx fun i => by
        rw [Nat.testBit_and, Nat.zero_testBit]
        cases q : (ea m B b).testBit i
        · rfl
        · rw [((ea_bit m B b i).1 q).2.1]; rfl
      have ci := cnt_le_of_inc (m := m) iab
      have cdj := cnt_disj (m := m) eab
      have cle := cnt_le m (ea m B b ||| b)
      have sia := size_of_lt lia h8
      have sea := size_of_lt lea h8
      have row0 := h1.row 0 (by omega)
      have rowi := h1.row (cnt m (ia m B b)) (by omega)
      have vali := h1.val (cnt m (ia m B b)) (by omega) (cnt m (ea m B b)) (by omega)
      have bnd := sumN_absT k (fun t => if cnt m (ia m B (B.getD t 0)) = cnt m (ia m B b) ∧ cnt m (ea m B (B.getD t 0)) = cnt m (ea m B b) then 1 else 0) 1 fun i hi => by split <;> omega
      simp only [and_nat, eab, rotaref_Within_nat, rotaref_Size_nat, sia, sea, h1.len, row0, toNat_nat, rowi, vali]
      rw [if_pos (by simp), Option.bind_some]
      simp only [iab, decide_true]
      rw [if_pos (by simp), Option.bind_some, if_pos (by simp; omega), Option.bind_some]
      refine gChk (by omega) (gIte (fun q => ?_) fun _ => ?_)
      · exfalso
        rcases q with (((q | q) | q) | q) | q
        all_goals first | exact q rfl | (simp at q; done) | omega
      simp only [Option.bind_some, toNat_nat, rowi, vali, h1.len]
      refine gChk (by omega) (gChk (by omega) ?_)
      refine gBind (R := fun o : List Int => o.length = 2 ^ m ∧ ∀ S, S < 2 ^ m → o.getD S 0 = sumN (k + 1) (fun t => if Btw m B (B.getD t 0) S then 1 else 0)) (gFor (2 ^ m) (fun s (x : List Int × Int) => x.2 = (s : Int) ∧ x.1.length = 2 ^ m ∧ ∀ S, S < 2 ^ m → x.1.getD S 0 = sumN k (fun t => if Btw m B (B.getD t 0) S then 1 else 0) + if S < s ∧ Btw m B b S then 1 else 0) (Nat.zero_le _) ⟨rfl, h2, fun S hS => by rw [h3 S hS]; simp⟩ ?_) fun o ho => gSome ⟨hk', by simp, ?_, ho.1, ho.2⟩
      · rintro s ⟨v8, _⟩ hs ⟨rfl, g1, g2⟩
        simp only [toNat_nat] at g1 g2 ⊢
        rw [h2]
        refine gIte (fun c2 => ?_) fun c2 => gSome ⟨g1, fun S hS => ?_⟩
        · have hs' : s < 2 ^ m := by omega
          have hw : (Inc (dif b (ia m B b)) s ∧ Inc s (b ||| ea m B b)) ↔ Btw m B b s := Iff.rfl
          have bnd2 := sumN_absT k (fun t => if Btw m B (B.getD t 0) s then 1 else 0) 1 fun i hi => by split <;> omega
          have gs := g2 s hs'
          rw [if_neg (by omega)] at gs
          simp only [dif_nat, or_nat, rotaref_Within_nat, Option.bind_some, gs]
          by_cases d : Btw m B b s
          · obtain ⟨d1, d2⟩ := d
            simp only [d1, d2, decide_true, if_true, Option.bind_some]
            refine gIte (fun _ => gChk (by omega) (gSome ⟨hs', by simp, by rw [List.length_set]; exact g1, fun S hS => ?_⟩)) fun q => absurd ⟨trivial, trivial⟩ q
            rw [set_getD _ (by omega)]
            by_cases e : S = s
            · subst e; rw [if_pos rfl, if_pos ⟨by omega, ⟨d1, d2⟩⟩, Int.add_zero]
            · rw [if_neg e, g2 S hS]
              congr 1
              by_cases w : S < s ∧ Btw m B b S
              · rw [if_pos w, if_pos ⟨by omega, w.2⟩]
              · rw [if_neg w, if_neg fun w2 => w ⟨by omega, w2.2⟩]
          · have fin : ∀ S, S < 2 ^ m → v8.getD S 0 = sumN k (fun t => if Btw m B (B.getD t 0) S then 1 else 0) + if S < s + 1 ∧ Btw m B b S then 1 else 0 := fun S hS => by
              rw [g2 S hS]
              congr 1
              by_cases w : S < s ∧ Btw m B b S
              · rw [if_pos w, if_pos ⟨by omega, w.2⟩]
              · rw [if_neg w, if_neg fun w2 => ?_]
                by_cases e : S = s
                · subst e; exact d w2.2
                · exact w ⟨by omega, w2.2⟩
            by_cases d1 : Inc (dif b (ia m B b)) s
            · have d2 : ¬ Inc s (b ||| ea m B b) := fun q => d ⟨d1, q⟩
              simp only [d1, d2, decide_true, decide_false, if_true, Option.bind_some]
              exact gIte (fun q => absurd q.2 (by simp)) fun _ => gSome ⟨hs', by simp, g1, fin⟩
            · simp only [d1, decide_false, Bool.false_eq_true, if_false, Option.bind_some]
              exact gIte (fun q => q.1.elim) fun _ => gSome ⟨hs', by simp, g1, fin⟩
        · rw [g2 S hS]
          simp only [sumN]
          have e : s = 2 ^ m := by omega
          subst e
          rw [hbe]
          congr 1
          by_cases w : Btw m B b S
          · rw [if_pos w, if_pos ⟨hS, w⟩]
          · rw [if_neg w, if_neg fun w2 => w w2.2]
      · refine (h1.set (i := cnt m (ia m B b)) (j := cnt m (ea m B b)) (by omega) (by omega) _).congr fun x hx y hy => ?_
        simp only [sumN]
        rw [hbe]
        by_cases w : x = cnt m (ia m B b) ∧ y = cnt m (ea m B b)
        · obtain ⟨rfl, rfl⟩ := w
          rw [if_pos ⟨rfl, rfl⟩, if_pos ⟨rfl, rfl⟩]
        · rw [if_neg w, if_neg fun w2 => w ⟨w2.1.symm, w2.2.symm⟩, Int.add_zero]
    · have e : k = B.length := by omega
      subst e
      refine ⟨v3, v4, rfl, h1.ext r1 fun i hi j hj => ?_, h2, fun S hS => ?_⟩
      · rw [h.poly i j]
      · rw [h3 S hS]
        obtain ⟨b, q1, q2, _, q4⟩ := h.crapo hS
        obtain ⟨k0, k1, k2⟩ := mem_getD.1 q1
        rw [sumN_congr (h := fun t => if t = k0 then 1 else 0) fun t ht => ?_, sumN_single _ _ _ k1]
        by_cases c : t = k0
        · subst c; rw [if_pos rfl, if_pos (by rw [k2]; exact q2)]
        · rw [if_neg c, if_neg fun w => ?_]
          have := q4 _ (mem_getD.2 ⟨t, ht, rfl⟩) w
          rcases Nat.lt_or_gt_of_ne c with d | d
          · have := h.rise t k0 d k1; omega
          · have := h.rise k0 t d ht; omega
  · rintro _ ⟨v6, v7, rfl, rfl, g1, g2⟩
    simp only
    refine gBindE (Rows64_spec _ _) ?_
    rw [decide_eq_true rfl, if_pos rfl, ContainsOne v7 (by omega) fun k hk => g2 k (by omega)]
    simp only [Option.bind_some]
    exact gSome (by decide)
end Go.SH
