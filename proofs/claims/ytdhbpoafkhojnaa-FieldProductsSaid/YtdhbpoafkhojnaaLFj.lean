/-
  Determinants of products: CAUCHY, BINET: the statement FieldProducts as a plain law. Conditions: none.
-/
import Derived.Test.YtdhbpoafkhojnaaLFi
import Derived.Test.YtdhbpoafkhojnaaSkFieldProducts
set_option linter.unusedSimpArgs false
set_option linter.unusedVariables false
set_option linter.unusedSectionVars false
namespace Go.SH
open Go Go.AX

theorem In_nat (s i : Nat) : rotaref_In s i = some (s.testBit i) := by
  unfold rotaref_In
  rw [chk_pos (by omega)]
  simp only [toNat_nat, shr_nat']
  congr 1
  rw [Nat.testBit_eq_decide_div_mod_eq]
  have : (((s / 2 ^ i : Nat) : Int)).tmod 2 = ((s / 2 ^ i % 2 : Nat) : Int) := tmod_two _
  rw [this]
  rw [Bool.eq_iff_iff, decide_eq_true_eq, decide_eq_true_eq]; omega
theorem elm_of_lt {n s : Nat} (h : s < 2 ^ n) : ∀ d, elm (n + d) s = elm n s
  | 0 => rfl
  | d + 1 => by
    show elm (n + d + 1) s = _
    rw [elm_succ, if_neg, elm_of_lt h d]
    rw [bit_ge h (by omega)]; decide
theorem Elements_elm {n s : Nat} (h : s < 2 ^ n) (h8 : n ≤ 8) : Gets (rotaref_Elements (s : Int)) (fun y => y = cs (elm n s)) := by
  unfold rotaref_Elements
  refine gBind (R := fun y => y = cs (elm n s)) (gFor 8 (fun k (x : List Int × Int) => x.2 = (k : Int) ∧ x.1 = cs (elm k s)) (Nat.zero_le _) ⟨rfl, rfl⟩ ?_) fun y hy => gSome hy
  rintro k ⟨_, _⟩ hk ⟨rfl, rfl⟩
  dsimp only
  refine gIte (fun h1 => ?_) fun h1 => gSome (by rw [show k = n + (8 - n) by omega, elm_of_lt h])
  rw [In_nat]
  refine gBindE rfl (gIte (fun q => ?_) fun q => gSome ⟨by omega, by simp, by rw [elm_succ, if_neg q]⟩)
  have := cnt_le k s
  refine gChk (by rw [List.length_append, cs_len, elm_len]; simp; omega) (gSome ⟨by omega, by simp, ?_⟩)
  rw [elm_succ, if_pos q]
  exact cs_app _ _
theorem CM.elim3 {p : Nat} {D : Int} {Y : List (List Int)} (h : CM p D Y) : ∃ m : Nat, D = m ∧ m ≤ 8 ∧ Y.length ≤ 6 ∧ MOk p Y.length m Y := by
  obtain ⟨p', m, inst, e1, e2, hm, h7, hp, h6, hY⟩ := h.elim
  have : p' = p := by omega
  subst this
  exact ⟨m, e2, hm, h6, hY⟩
theorem CM.of3 {p : Nat} {C : Int} {X : List (List Int)} (h : CM p C X) {r n : Nat} {Y : List (List Int)} (hr : r ≤ 6) (hn : n ≤ 8) (hY : MOk p r n Y) : CM p n Y := CM.of (by have := h.1; omega) hn hr hY
theorem Times_bad3 {P C Q D : Int} {X Y : List (List Int)} (h : ¬ (CM P C X ∧ CM Q D Y ∧ P = Q ∧ C = Y.length)) : Gets (field_Times P C X Q D Y) (fun y => y.2.2.2 ≠ 0 ∧ y.2.2.1 = []) := by
  unfold field_Times
  refine gBind (CheckMatrix_spec P C X) fun e he => ?_
  refine gBind (CheckMatrix_spec Q D Y) fun e' he' => gIte (fun q => gSome ⟨q, rfl⟩) fun q0 => gIte (fun q => gSome ⟨q, rfl⟩) fun q => gIte (fun q2 => gSome ⟨by decide, rfl⟩) fun q2 => ?_
  exact absurd ⟨he.2.1 (by omega), he'.2.1 (by omega), by omega, by omega⟩ h
theorem det31 : Gets (field_Determinant 3 1 [[2]]) (fun y => y = (2, 0)) := by
  have hX : MOk 3 1 1 [[2]] := ⟨rfl, fun i hi => by rw [show i = 0 by omega]; rfl, fun i hi j hj => by rw [show i = 0 by omega, show j = 0 by omega]; decide⟩
  refine (show Gets (field_Determinant ((3 : Nat) : Int) ((1 : Nat) : Int) [[2]]) _ from Det_spec fld3 (by omega) hX (by omega) (CM.of (by omega) (by omega) (by omega) hX)).mono ?_
  rintro _ ⟨d, rfl, hd, e⟩
  have e2 : cF 3 d = cF 3 2 := by rw [e]; decide
  have := (cF_eq hd ⟨by decide, by decide⟩).1 e2
  rw [this]
section
variable {p : Nat} [NeZero p]
theorem fj1 (a : Fin p) : a = a + 0 := by grind
theorem rotakeep_FieldProducts_law (P C : Int) (X : List (List Int)) (Q E : Int) (Y : List (List Int)) : rotakeep_FieldProducts P C X Q E Y = some true := by
  refine Gets.eq ?_
  unfold rotakeep_FieldProducts
  refine gBind det31 ?_
  rintro _ rfl
  refine gIte (fun q => absurd q (by decide)) fun _ => ?_
  by_cases hXY : CM P C X ∧ CM Q E Y ∧ P = Q ∧ C = Y.length
  case neg => exact gBind (Times_bad3 hXY) fun y hy => gIte (fun _ => gSome (by rw [hy.2]; rfl)) fun q => absurd hy.1 q
  obtain ⟨hX, hYc, rfl, en⟩ := hXY
  obtain ⟨p, n, inst, rfl, rfl, hn8, h7, hp, hr6, hXo⟩ := hX.elim
  obtain ⟨m, rfl, hm8, hn6, hYo⟩ := hYc.elim3
  have en' : Y.length = n := by omega
  rw [en'] at hYo hn6
  generalize hr : X.length = r at hr6 hXo
  have hlY := hYo.len
  have hp0 : 0 < p := Nat.pos_of_ne_zero (NeZero.ne p)
  refine gBind (Times_spec h7 hXo hYo hr6 hn8 hm8 hX hYc) ?_
  rintro _ ⟨W, rfl, hWo, hW⟩
  have hWc := hX.of3 hr6 hm8 hWo
  have hlW := hWo.len
  dsimp only
  refine gIte (fun q => absurd rfl q) fun _ => ?_
  refine gJoin (R := fun _ => True) (fun _ _ => ?_) fun j hj => ?_
  · by_cases hrm : r = m
    case neg =>
      refine gBind (Det_shape hWc (by omega)) ?_
      rintro _ rfl
      exact gIte (fun _ => gSome (by decide)) fun q => absurd (by decide) q
    subst hrm
    refine gBind (Det_spec hp h7 hWo hr6 hWc) ?_
    rintro _ ⟨d, rfl, hd, hd2⟩
    dsimp only
    refine gIte (fun q => absurd rfl q) fun _ => gChk ⟨by omega, by omega⟩ ?_
    have h256 := pow_le8 hn8
    refine gBind (R := fun z : Int ⊕ Bool => match z with | .inl v => 0 ≤ v ∧ cF p v = D r (MF p W) | .inr _ => False)
      (gFor (2 ^ n) (fun s (x : Int × Int) => x.2 = (s : Int) ∧ (0 ≤ x.1 ∧ x.1 ≤ 49 * s) ∧ cF p x.1 = Sm s (fun s => if cnt n s = r then D r (rs n s (MF p X)) * D r (fun i => MF p Y ((elm n s).getD i 0)) else 0)) (Nat.zero_le _) ⟨rfl, ⟨Int.le_refl _, by simp⟩, cF_zero⟩ ?_) ?_
    · rintro s ⟨v, _⟩ hs ⟨rfl, hv, hsum⟩
      dsimp only at hv hsum ⊢
      simp only [toNat_nat, shl_nat', hr]
      refine gIte (fun h1 => ?_) fun h1 => gSome ⟨hv.1, ?_⟩
      rotate_left
      · rw [hsum, show s = 2 ^ n by omega, ← cauchy r n (MF p X) (MF p Y)]
        exact D_congr fun i hi j hj => (hW i hi j hj).symm
      have hs' : s < 2 ^ n := by omega
      have hcn := cnt_le n s
      refine gBind (R := fun y => y = ((cnt n s : Nat) : Int)) (by
        unfold rotaref_Size
        refine gBind (Elements_elm hs' hn8) ?_
        rintro _ rfl
        exact gSome (by rw [cs_len, elm_len])) ?_
      rintro _ rfl
      refine gIte (fun h2 => gChk ⟨by omega, by omega⟩ (gSome ⟨hs', by simp, ⟨hv.1, by omega⟩, ?_⟩)) fun h2 => ?_
      · show cF p v = Sm s _ + (if cnt n s = r then _ else 0)
        rw [if_neg (by omega), hsum]; exact fj1 _
      have hcr : cnt n s = r := by omega
      -- the columns
      refine gBind (R := fun A => MOk p r r A ∧ ∀ a, a < r → ∀ k, k < r → ent A a k = ent X a ((elm n s).getD k 0))
        (gFor r (fun i (x : List (List Int) × Int) => x.2 = (i : Int) ∧ MOk p i r x.1 ∧ ∀ a, a < i → ∀ k, k < r → ent x.1 a k = ent X a ((elm n s).getD k 0)) (Nat.zero_le _) ⟨rfl, ⟨rfl, fun i h => by omega, fun i h => by omega⟩, fun i h => by omega⟩ ?_) ?_
      · rintro i ⟨V, _⟩ hi ⟨rfl, hV, hV2⟩
        dsimp only at hV hV2 ⊢
        have hlV := hV.len
        simp only [toNat_nat]
        refine gIte (fun h3 => ?_) fun h3 => gSome (by rw [show r = i by omega] at hV2 ⊢; exact ⟨by rw [show r = i by omega] at hV; exact hV, hV2⟩)
        have hir : i < r := by omega
        have hrow := hXo.row i hir
        refine gChk ⟨by omega, by omega⟩ ?_
        refine gBind (Elements_elm hs' hn8) ?_
        rintro _ rfl
        refine gBind (R := fun w : List Int => w.length = r ∧ ∀ k, k < r → w.getD k 0 = ent X i ((elm n s).getD k 0)) (gFor r (fun t (x : List Int × Int) => x.2 = (t : Int) ∧ x.1.length = t ∧ ∀ b, b < t → x.1.getD b 0 = ent X i ((elm n s).getD b 0)) (Nat.zero_le _) ⟨rfl, rfl, fun b h => by omega⟩ ?_) ?_
        · rintro t ⟨U, _⟩ ht ⟨rfl, hU, hU2⟩
          dsimp only at hU hU2 ⊢
          simp only [toNat_nat, cs_get, cs_len, elm_len]
          refine gIte (fun h4 => ?_) fun h4 => gSome (by rw [show r = t by omega]; exact ⟨hU, hU2⟩)
          have htr : t < r := by omega
          have hlt := elm_lt (n := n) (s := s) (k := t) (by omega)
          refine gChk ⟨by omega, by omega⟩ (gChk ⟨⟨by omega, by rw [hrow]; omega⟩, by rw [List.length_append, hU]; simp; omega⟩ (gSome ⟨htr, by simp, by rw [List.length_append, hU]; rfl, fun b hb => ?_⟩))
          rcases Nat.lt_succ_iff_lt_or_eq.1 hb with q | q
          · rw [snocI_lt (by omega)]; exact hU2 b q
          · rw [snocI_at (by omega), q]; rfl
        · rintro U ⟨hU, hU2⟩
          have at' : ∀ a, a < i → ∀ j, ent (V ++ [U]) a j = ent V a j := fun a ha j => by unfold ent; rw [snoc_lt (by omega)]
          have ats : ∀ j, ent (V ++ [U]) i j = U.getD j 0 := fun j => by unfold ent; rw [snoc_at (by omega)]
          refine gChk (by rw [List.length_append, hlV]; simp; omega) (gSome ⟨hir, by simp, ⟨by rw [List.length_append, hlV]; rfl, fun a ha => ?_, fun a ha k hk => ?_⟩, fun a ha k hk => ?_⟩)
          · rcases Nat.lt_succ_iff_lt_or_eq.1 ha with q | q
            · rw [snoc_lt (by omega)]; exact hV.row a q
            · rw [snoc_at (by omega)]; exact hU
          · rcases Nat.lt_succ_iff_lt_or_eq.1 ha with q | q
            · rw [at' a q]; exact hV.bd a q k hk
            · rw [q, ats, hU2 k hk]; exact hXo.bd i hir _ (elm_lt (by omega))
          · rcases Nat.lt_succ_iff_lt_or_eq.1 ha with q | q
            · rw [at' a q]; exact hV2 a q k hk
            · rw [q, ats]; exact hU2 k hk
      rintro A ⟨hA, hA2⟩
      refine gBind (Elements_elm hs' hn8) ?_
      rintro _ rfl
      -- the rows
      refine gBind (R := fun B => MOk p r r B ∧ ∀ a, a < r → ∀ k, k < r → ent B a k = ent Y ((elm n s).getD a 0) k)
        (gFor r (fun i (x : List (List Int) × Int) => x.2 = (i : Int) ∧ MOk p i r x.1 ∧ ∀ a, a < i → ∀ k, k < r → ent x.1 a k = ent Y ((elm n s).getD a 0) k) (Nat.zero_le _) ⟨rfl, ⟨rfl, fun i h => by omega, fun i h => by omega⟩, fun i h => by omega⟩ ?_) ?_
      · rintro i ⟨V, _⟩ hi ⟨rfl, hV, hV2⟩
        dsimp only at hV hV2 ⊢
        have hlV := hV.len
        simp only [toNat_nat, cs_get, cs_len, elm_len]
        refine gIte (fun h3 => ?_) fun h3 => gSome (by rw [show r = i by omega] at hV2 ⊢; exact ⟨by rw [show r = i by omega] at hV; exact hV, hV2⟩)
        have hir : i < r := by omega
        have hlt := elm_lt (n := n) (s := s) (k := i) (by omega)
        have hrow := hYo.row _ hlt
        have at' : ∀ a, a < i → ∀ j, ent (V ++ [Y.getD ((elm n s).getD i 0) []]) a j = ent V a j := fun a ha j => by unfold ent; rw [snoc_lt (by omega)]
        have ats : ∀ j, ent (V ++ [Y.getD ((elm n s).getD i 0) []]) i j = ent Y ((elm n s).getD i 0) j := fun j => by unfold ent; rw [snoc_at (by omega)]
        refine gChk ⟨by omega, by omega⟩ (gChk ⟨by omega, by omega⟩ (gChk (by rw [hrow]; omega) (gChk (by rw [List.length_append, hlV]; simp; omega) (gSome ⟨hir, by simp, ⟨by rw [List.length_append, hlV]; rfl, fun a ha => ?_, fun a ha k hk => ?_⟩, fun a ha k hk => ?_⟩))))
        · rcases Nat.lt_succ_iff_lt_or_eq.1 ha with q | q
          · rw [snoc_lt (by omega)]; exact hV.row a q
          · rw [snoc_at (by omega)]; exact hrow
        · rcases Nat.lt_succ_iff_lt_or_eq.1 ha with q | q
          · rw [at' a q]; exact hV.bd a q k hk
          · rw [q, ats]; exact hYo.bd _ hlt k hk
        · rcases Nat.lt_succ_iff_lt_or_eq.1 ha with q | q
          · rw [at' a q]; exact hV2 a q k hk
          · rw [q, ats]
      rintro B ⟨hB, hB2⟩
      refine gBind (Det_spec hp h7 hA hr6 (hX.of3 hr6 (by omega) hA)) ?_
      rintro _ ⟨da, rfl, ha1, ha2⟩
      refine gBind (Det_spec hp h7 hB hr6 (hX.of3 hr6 (by omega) hB)) ?_
      rintro _ ⟨db, rfl, hb1, hb2⟩
      dsimp only
      refine gIte (fun q => absurd q (by simp)) fun _ => ?_
      have m1 := mul_bd7 ha1.1 (by omega) hb1.1 (by omega)
      refine gChk ⟨⟨by omega, by omega⟩, by omega, by omega⟩ (gChk ⟨by omega, by omega⟩ (gSome ⟨hs', by simp, ⟨by omega, by omega⟩, ?_⟩))
      show cF p (v + da * db) = Sm s _ + (if cnt n s = r then _ else 0)
      rw [if_pos hcr, cF_add, cF_mul, hsum, ha2, hb2]
      congr 2
      · exact D_congr fun i hi k hk => by unfold MF rs; rw [hA2 i hi k hk]
      · exact D_congr fun i hi k hk => by unfold MF; rw [hB2 i hi k hk]
    · rintro (v | b) hz
      · refine gChk (by omega) (gSome ?_)
        have e : Int.tmod v p = d := (cF_eq (tmod_bd hz.1) hd).1 (by rw [cF_tmod hz.1, hz.2, hd2])
        simp [e]
      · exact hz.elim
  · by_cases hrn : r = n
    case neg =>
      refine gBind (Det_shape hX (by omega)) ?_
      rintro _ rfl
      exact gIte (fun q => absurd q (by decide)) fun _ => hj () trivial
    subst hrn
    refine gBind (Det_spec hp h7 hXo hr6 hX) ?_
    rintro _ ⟨d, rfl, hd, hd2⟩
    refine gIte (fun _ => ?_) fun q => absurd rfl q
    refine gBind (Turned_spec hXo hr6 hr6 hX) ?_
    rintro _ ⟨T, rfl, hT, hT2⟩
    refine gBind (Det_spec hp h7 hT hr6 (hX.of3 hr6 (by omega) hT)) ?_
    rintro _ ⟨d', rfl, hd', hd2'⟩
    have e : d' = d := (cF_eq hd' hd).1 (by
      rw [hd2, hd2', ← D_turn]
      exact D_congr fun i hi k hk => (hT2 k hk i hi))
    subst e
    dsimp only
    exact gIte (fun q => absurd q (by simp)) fun _ => hj () trivial
end
end Go.SH
