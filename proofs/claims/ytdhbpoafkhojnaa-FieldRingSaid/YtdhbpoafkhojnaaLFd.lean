/-
  Products of matrices: brackets, turning over, ranks: the statement FieldRing as a plain law. Conditions: none.
-/
import Derived.Test.YtdhbpoafkhojnaaLFc
import Derived.Test.YtdhbpoafkhojnaaLSm
import Derived.Test.YtdhbpoafkhojnaaSkFieldRing
set_option linter.unusedSimpArgs false
set_option linter.unusedVariables false
set_option linter.unusedSectionVars false
namespace Go.SH
open Go Go.AX

theorem CM.elim2 {p : Nat} {D : Int} {Y : List (List Int)} (h : CM p D Y) : ∃ m : Nat, D = m ∧ m ≤ 8 ∧ Y.length ≤ 6 ∧ MOk p Y.length m Y := by
  obtain ⟨p', m, inst, e1, e2, hm, h7, hp, h6, hY⟩ := h.elim
  have : p' = p := by omega
  subst this
  exact ⟨m, e2, hm, h6, hY⟩
theorem CM.of' {p : Nat} {C : Int} {X : List (List Int)} (h : CM p C X) {r n : Nat} {Y : List (List Int)} (hr : r ≤ 6) (hn : n ≤ 8) (hY : MOk p r n Y) : CM p n Y := CM.of (by have := h.1; omega) hn hr hY
theorem Times_bad {P C Q D : Int} {X Y : List (List Int)} (hX : CM P C X) (h : ¬ (CM Q D Y ∧ P = Q ∧ C = Y.length)) : Gets (field_Times P C X Q D Y) (fun y => y.2.2.2 ≠ 0 ∧ y.2.2.1 = []) := by
  unfold field_Times
  refine gBind hX.good fun e he => ?_
  refine gBind (CheckMatrix_spec Q D Y) fun e' he' => gIte (fun q => absurd he q) fun _ => gIte (fun q => gSome ⟨q, rfl⟩) fun q => gIte (fun q2 => gSome ⟨by decide, rfl⟩) fun q2 => ?_
  exact absurd ⟨he'.2.1 (by omega), by omega, by omega⟩ h
theorem Turned_big {P C : Int} {X : List (List Int)} (h : 6 < C) : Gets (field_Turned P C X) (fun y => y.2.2.2 ≠ 0) := by
  unfold field_Turned
  exact gBind (CheckMatrix_spec P C X) fun e he => gIte (fun q => gSome q) fun q => gIte (fun _ => gSome (by decide)) fun q2 => absurd h q2
section
variable {p : Nat} [NeZero p]
theorem prod_ker {r n m : Nat} {A B Z : Nat → Nat → Fin p} (h : Prod r n m A B Z) (v : Nat → Fin p) : Ker r m Z v ↔ Ker r n A (fun l => Sm m (fun j => B l j * v j)) := by
  have e : ∀ i, i < r → Sm m (fun j => Z i j * v j) = Sm n (fun l => A i l * Sm m (fun j => B l j * v j)) := fun i hi => by
    rw [Sm_congr (g := fun j => Sm n (fun l => A i l * (B l j * v j))) fun j hj => by
      rw [h i hi j hj, ← Sm_mulr]; exact Sm_congr fun l _ => fa9 _ _ _, Sm_comm]
    exact Sm_congr fun l _ => Sm_mul _ _ _
  constructor
  · intro hv i hi; rw [← e i hi]; exact hv i hi
  · intro hv i hi; rw [e i hi]; exact hv i hi
theorem prod_assoc {r n m q : Nat} {A B C AB BC L R : Nat → Nat → Fin p} (h1 : Prod r n m A B AB) (h2 : Prod n m q B C BC) (h3 : Prod r m q AB C L) (h4 : Prod r n q A BC R) : ∀ i, i < r → ∀ c, c < q → L i c = R i c := fun i hi c hc => by
  rw [h3 i hi c hc, h4 i hi c hc]
  rw [Sm_congr (g := fun j => Sm n (fun l => A i l * (B l j * C j c))) fun j hj => by
      rw [h1 i hi j hj, ← Sm_mulr]; exact Sm_congr fun l _ => fa9 _ _ _, Sm_comm]
  exact Sm_congr fun l hl => by rw [h2 l hl c hc]; exact Sm_mul _ _ _
theorem Red.same {r n k k' : Nat} {h h' : Nat → Nat} {X A A' : List (List Int)} (h1 : (1 : Fin p) ≠ 0) (H : RedOf p r n X k h A) (H' : RedOf p k n A k' h' A') : A = A' := by
  obtain ⟨_, a1, a2, a3⟩ := H
  obtain ⟨_, b1, b2, b3⟩ := H'
  obtain ⟨rfl, _, e⟩ := a2.same b2 h1 b3
  exact a1.ext b1 e
end
theorem rank74 : Gets (field_Rank 7 1 [[4]]) (fun y => y = (1, 0)) := by
  have hX : MOk 7 1 1 [[4]] := ⟨rfl, fun i hi => by rw [show i = 0 by omega]; rfl, fun i hi j hj => by rw [show i = 0 by omega, show j = 0 by omega]; decide⟩
  refine (show Gets (field_Rank ((7 : Nat) : Int) ((1 : Nat) : Int) [[4]]) _ from Rank_spec fld7 (by omega) hX (by omega) (by omega) (CM.of (by omega) (by omega) (by omega) hX)).mono ?_
  rintro _ ⟨k, h, Y, rfl, hk, hY, hR, hK⟩
  have : k ≠ 0 := fun e => by
    subst e
    have := (hK (fun _ => 1)).2 (fun i hi => by omega) 0 (by omega)
    revert this
    decide
  have : k = 1 := by omega
  subst this
  rfl
theorem rotakeep_FieldRing_law (P C : Int) (X : List (List Int)) (Q D : Int) (Y : List (List Int)) (R E : Int) (Z : List (List Int)) : rotakeep_FieldRing P C X Q D Y R E Z = some true := by
  refine Gets.eq ?_
  unfold rotakeep_FieldRing
  refine gBind rank74 ?_
  rintro _ rfl
  refine gIte (fun q => absurd q (by decide)) fun _ => ?_
  by_cases hX : CM P C X
  case neg => exact gBind (Reduced_bad hX) fun y hy => gIte (fun _ => gSome (by rw [hy.2]; rfl)) fun q => absurd hy.1 q
  obtain ⟨p, n, inst, rfl, rfl, hn8, h7, hp, hr6, hXo⟩ := hX.elim
  have h1 := hp.one
  generalize hr : X.length = r at hr6 hXo
  refine gBind (Reduced_spec hp h7 hXo hr6 hn8 hX) ?_
  rintro _ ⟨k, h, A, rfl, hA⟩
  dsimp only
  refine gIte (fun q => absurd rfl q) fun _ => ?_
  have hk6 : k ≤ 6 := Nat.le_trans hA.1 hr6
  refine gBind (Reduced_spec hp h7 hA.2.1 hk6 hn8 (hX.of' hk6 hn8 hA.2.1)) ?_
  rintro _ ⟨k', h', A', rfl, hA'⟩
  have eA := Red.same h1 hA hA'
  subst eA
  dsimp only
  rw [if_pos (by decide), Rows_spec]
  refine gBindE rfl (gIte (fun q => absurd q (by simp)) fun _ => ?_)
  by_cases hY : CM Q D Y ∧ (p : Int) = Q ∧ (n : Int) = Y.length
  case neg => exact gBind (Times_bad hX hY) fun y hy => gIte (fun _ => gSome (by rw [hy.2]; rfl)) fun q => absurd hy.1 q
  obtain ⟨hYc, rfl, en⟩ := hY
  obtain ⟨m, rfl, hm8, hn6, hYo⟩ := hYc.elim2
  have en' : Y.length = n := by omega
  rw [en'] at hYo hn6
  refine gBind (Times_spec h7 hXo hYo hr6 hn8 hm8 hX hYc) ?_
  rintro _ ⟨W, rfl, hWo, hW⟩
  have hWc := hX.of' hr6 hm8 hWo
  dsimp only
  refine gIte (fun q => absurd rfl q) fun _ => ?_
  refine gBind (Rank_spec hp h7 hXo hr6 hn8 hX) ?_
  rintro _ ⟨kx, hx, BX, rfl, x1, x2, x3, x4⟩
  refine gBind (Rank_spec hp h7 hYo hn6 hm8 hYc) ?_
  rintro _ ⟨ky, hy, BY, rfl, y1, y2, y3, y4⟩
  refine gBind (Rank_spec hp h7 hWo hr6 hm8 hWc) ?_
  rintro _ ⟨kw, hw, BW, rfl, w1, w2, w3, w4⟩
  have le1 : kw ≤ ky := y3.le w3 h1 fun v hv => (w4 v).1 ((prod_ker hW v).2 fun i hi => Sm_zero fun l hl => by
    show MF p X i l * Sm m (fun j => MF p Y l j * v j) = 0
    rw [(y4 v).2 hv l hl]; exact fa5 _)
  have le2 : kw ≤ kx := w3.least hp (Z := fun t j => Sm n (fun l => MF p BX t l * MF p Y l j)) fun v hv =>
    (w4 v).1 ((prod_ker hW v).2 ((x4 _).2 ((prod_ker (fun _ _ _ _ => rfl) v).1 hv)))
  dsimp only
  refine gIte (fun q => ?_) fun _ => ?_
  · rcases q with q | q
    · exact absurd q (by simp)
    · omega
  refine gBind (Turned_spec hXo hr6 hn6 hX) ?_
  rintro _ ⟨S, rfl, hSo, hS⟩
  dsimp only
  have hJ : Gets ((field_Times p m Y R E Z).bind fun y13 =>
      if y13.2.2.2 ≠ 0 then some true
      else (field_Times p m W R E Z).bind fun y14 => (field_Times p n X y13.1 y13.2.1 y13.2.2.1).bind fun y15 =>
        (if (y14.2.2.2 = 0 ∧ y15.2.2.2 = 0) then rotalaw_Rows_int y14.2.2.1 y15.2.2.1 else some false).bind fun y16 => some (decide (((y14.2.2.2 = 0 ∧ y15.2.2.2 = 0) ∧ y16 = true)))) (fun b => b = true) := by
    by_cases hZ : CM R E Z ∧ (p : Int) = R ∧ (m : Int) = Z.length
    case neg => exact gBind (Times_bad hYc hZ) fun y hy => gIte (fun _ => gSome rfl) fun q => absurd hy.1 q
    obtain ⟨hZc, rfl, em⟩ := hZ
    obtain ⟨c, rfl, hc8, hm6, hZo⟩ := hZc.elim2
    have em' : Z.length = m := by omega
    rw [em'] at hZo hm6
    refine gBind (Times_spec h7 hYo hZo hn6 hm8 hc8 hYc hZc) ?_
    rintro _ ⟨U, rfl, hUo, hU⟩
    dsimp only
    refine gIte (fun q => absurd rfl q) fun _ => ?_
    refine gBind (Times_spec h7 hWo hZo hr6 hm8 hc8 hWc hZc) ?_
    rintro _ ⟨G, rfl, hGo, hG⟩
    refine gBind (Times_spec h7 hXo hUo hr6 hn8 hc8 hX (hX.of' hn6 hc8 hUo)) ?_
    rintro _ ⟨H, rfl, hHo, hH⟩
    have eGH : G = H := hGo.ext hHo (prod_assoc hW hU hG hH)
    subst eGH
    dsimp only
    rw [if_pos ⟨rfl, rfl⟩, Rows_spec]
    exact gBindE rfl (gSome (by simp))
  by_cases hm6 : m ≤ 6
  case neg =>
    refine gBind (Turned_big (show (6 : Int) < (m : Int) by omega)) fun y hy => ?_
    unfold joinM
    exact gIte (fun q => absurd q.2 hy) fun _ => hJ
  refine gBind (Turned_spec hYo hn6 hm6 hYc) ?_
  rintro _ ⟨T, rfl, hTo, hT⟩
  dsimp only
  unfold joinM
  refine gIte (fun _ => ?_) fun _ => hJ
  refine gBind (Times_spec h7 hTo hSo hm6 hn8 (by omega) (hX.of' hm6 hn8 hTo) (hX.of' hn6 (by omega) hSo)) ?_
  rintro _ ⟨U, rfl, hUo, hU⟩
  refine gBind (Turned_spec hWo hr6 hm6 hWc) ?_
  rintro _ ⟨V, rfl, hVo, hV⟩
  have eUV : U = V := hUo.ext hVo fun i hi j hj => by
    rw [hU i hi j hj, hV i hi j hj, hW j hj i hi]
    exact Sm_congr fun l hl => by rw [hT i hi l hl, hS l hl j hj]; exact fa8 _ _
  subst eUV
  dsimp only
  rw [if_pos (by decide), Rows_spec]
  exact gBindE rfl (gIte (fun q => absurd q (by simp)) fun _ => hJ)
end Go.SH
