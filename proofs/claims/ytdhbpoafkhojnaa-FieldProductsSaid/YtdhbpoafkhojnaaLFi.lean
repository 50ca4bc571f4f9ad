/-
  field.Determinant computes the determinant. Conditions: none.
-/
import Derived.Test.YtdhbpoafkhojnaaLFh
set_option linter.unusedSimpArgs false
set_option linter.unusedVariables false
set_option linter.unusedSectionVars false
namespace Go.SH
open Go Go.AX
section
variable {p : Nat} [NeZero p]
theorem Pd_congr {f g : Nat → Fin p} : ∀ {n : Nat}, (∀ i, i < n → f i = g i) → Pd n f = Pd n g
  | 0, _ => rfl
  | n + 1, h => by
    show Pd n f * f n = Pd n g * g n
    rw [Pd_congr fun i hi => h i (by omega), h n (by omega)]
theorem sw_comm (a b i : Nat) : sw a b i = sw b a i := by unfold sw; split <;> split <;> omega
theorem di1 (s d : Fin p) : s * d = - s * - d := by grind
theorem di2 (s d : Fin p) : - (s * d) = - s * d := by grind
theorem di3 (a b c : Fin p) : a * b * c = a * (b * c) := by grind
theorem di4 (a : Fin p) : (0 : Fin p) - a = - a := by grind
theorem di5 (a b c : Fin p) (h : b * c = 1) : a - a * b * c = 0 := by grind
theorem di6 (t : Fin p) : (0 : Fin p) - t * 0 = 0 := by grind
theorem di7 (a : Fin p) : a = 1 * a := by grind
theorem di8 : (1 : Fin p) = 1 * 1 := by grind
theorem Det_spec (hp : Fld p) (h7 : p ≤ 7) {n : Nat} {X : List (List Int)} (hX : MOk p n n X) (hn6 : n ≤ 6) (hc : CM p n X) : Gets (field_Determinant p n X) (fun y => ∃ d : Int, y = (d, 0) ∧ (0 ≤ d ∧ d < p) ∧ cF p d = D n (MF p X)) := by
  have hlX := hX.len
  have hp0 : 0 < p := Nat.pos_of_ne_zero (NeZero.ne p)
  have hp1 : 1 < p := by
    rcases Nat.lt_or_ge 1 p with c | c
    · exact c
    · exfalso
      have e : p = 1 := by omega
      subst e
      exact hp.one (by apply Fin.ext; omega)
  unfold field_Determinant
  refine gBind hc.good fun e he => gIte (fun q => absurd he q) fun _ => gIte (fun q => absurd (by omega) q) fun _ => ?_
  refine gBind (field_twin_spec hX hn6 (by omega) _ _) ?_
  rintro _ rfl
  dsimp only
  refine gBind (R := fun z : Int ⊕ (Int × Int) => match z with | .inl d => (0 ≤ d ∧ d < p) ∧ cF p d = D n (MF p X) | .inr y => ∃ d : Int, y = (d, 0) ∧ (0 ≤ d ∧ d < p) ∧ cF p d = D n (MF p X))
    (gFor n (fun c (s : List (List Int) × Int × Int) => s.2.2 = (c : Int) ∧ MOk p n n s.1 ∧ (0 ≤ s.2.1 ∧ s.2.1 < p) ∧ (∀ j, j < c → ∀ i, j < i → i < n → MF p s.1 i j = 0) ∧ ∃ σ : Fin p, D n (MF p X) = σ * D n (MF p s.1) ∧ cF p s.2.1 = σ * Pd c (fun i => MF p s.1 i i)) (Nat.zero_le _)
      ⟨rfl, hX, ⟨by show (0 : Int) ≤ 1; omega, by show (1 : Int) < p; omega⟩, fun j hj => by omega, 1, di7 _, by show cF p 1 = 1 * 1; rw [cF_one hp1]; exact di8⟩ ?_) ?_
  · rintro c ⟨V0, d0, _⟩ hcn ⟨rfl, hV0, hd0, hlow0, σ0, hσ0, hs0⟩
    dsimp only at hV0 hd0 hlow0 hσ0 hs0 ⊢
    refine gIte (fun h1 => ?_) fun h1 => gSome ⟨hd0, ?_⟩
    rotate_left
    · have e : c = n := by omega
      subst e
      rw [hσ0, hs0, D_ut c _ fun i j hi hj => hlow0 j (by omega) i hj hi]
    have hcn' : c < n := by omega
    refine gBind (dsearch_spec hV0 hcn' (by omega) _ (fun v => rfl)) ?_
    rintro _ ⟨e, rfl, e1, e2, e3, e4⟩
    refine gIte (fun h2 => gSome ⟨0, rfl, ⟨by omega, by omega⟩, ?_⟩) fun h2 => ?_
    · rw [hσ0, D_low n c _ hcn' fun i h3 h4 j h5 => ?_, cF_zero, da3]
      rcases Nat.lt_or_ge j c with w | w
      · exact hlow0 j w i (by omega) h4
      · rw [show j = c by omega]; exact e3 i h3 (by omega)
    have her : e < n := by omega
    refine gJoin (R := fun s : List (List Int) × Int => MOk p n n s.1 ∧ (0 ≤ s.2 ∧ s.2 < p) ∧ (∀ j, j < c → ∀ i, j < i → i < n → MF p s.1 i j = 0) ∧ (∃ σ : Fin p, D n (MF p X) = σ * D n (MF p s.1) ∧ cF p s.2 = σ * Pd c (fun i => MF p s.1 i i)) ∧ MF p s.1 c c ≠ 0) ?_ ?_
    · rintro ⟨V, d⟩ ⟨hV, hd, hlow, ⟨σ, hσ, hs⟩, hpiv⟩
      dsimp only at hV hd hlow hσ hs hpiv ⊢
      have hlV := hV.len
      have hrow := hV.row c hcn'
      have bc := hV.bd c hcn' c hcn'
      have ee : (V.getD c []).getD c 0 = ent V c c := rfl
      have m1 := mul_bd7 hd.1 (by omega) bc.1 (by omega)
      simp only [toNat_nat, ee]
      refine gChk ⟨⟨by omega, by omega⟩, ⟨by omega, by omega⟩, ⟨by omega, by omega⟩, by omega⟩ (gChk ⟨⟨by omega, by omega⟩, by omega, by omega⟩ ?_)
      refine gBind (finverse_spec hp h7 bc) ?_
      rintro y ⟨hy1, hy2⟩
      have hy3 := hy2 hpiv
      refine gChk ⟨by omega, by omega⟩ ?_
      refine gBind (R := fun W => MOk p n n W ∧ D n (MF p W) = D n (MF p V) ∧ ∀ a, a < n → ∀ b, b < n → MF p W a b = if c < a then MF p V a b - MF p V a c * cF p y * MF p V c b else MF p V a b)
        (gFor n (fun i (s : List (List Int) × Int) => s.2 = (i : Int) ∧ c + 1 ≤ i ∧ MOk p n n s.1 ∧ D n (MF p s.1) = D n (MF p V) ∧ ∀ a, a < n → ∀ b, b < n → MF p s.1 a b = if c < a ∧ a < i then MF p V a b - MF p V a c * cF p y * MF p V c b else MF p V a b) (show c + 1 ≤ n by omega)
          ⟨by simp, Nat.le_refl _, hV, rfl, fun a ha b hb => by rw [if_neg (by omega)]⟩ ?_) ?_
      · rintro i ⟨Z, _⟩ hi ⟨rfl, hci, hZ, hDZ, hZ2⟩
        dsimp only at hZ hDZ hZ2 ⊢
        have hlZ := hZ.len
        refine gIte (fun h3 => ?_) fun h3 => gSome ⟨hZ, hDZ, fun a ha b hb => ?_⟩
        rotate_left
        · rw [hZ2 a ha b hb]
          by_cases w : c < a
          · rw [if_pos w, if_pos ⟨w, by omega⟩]
          · rw [if_neg w, if_neg (fun q => w q.1)]
        have hin : i < n := by omega
        have bz := hZ.bd i hin c hcn'
        have m2 := mul_bd7 bz.1 (by omega) hy1.1 (by omega)
        have hrz := hZ.row i hin
        have ez : (Z.getD i []).getD c 0 = ent Z i c := rfl
        simp only [toNat_nat, ez]
        refine gChk ⟨⟨by omega, by omega⟩, ⟨by omega, by omega⟩, ⟨by omega, by omega⟩, by omega⟩ ?_
        refine gBind (drowop_spec h7 (by omega) hZ hcn' hin (show i ≠ c by omega) (Nat.le_of_lt hcn') (tmod_bd m2.1) _ (fun v v7 => rfl)) ?_
        rintro W ⟨hW, hW2⟩
        have zic : MF p Z i c = MF p V i c := by have := hZ2 i hin c hcn'; rw [if_neg (by omega)] at this; exact this
        have ti : cF p (Int.tmod (ent Z i c * y) p) = MF p V i c * cF p y := by
          rw [cF_tmod m2.1, cF_mul]; exact congrArg (· * cF p y) zic
        have zc : ∀ b, b < n → MF p Z c b = MF p V c b := fun b hb => by have := hZ2 c hcn' b hb; rw [if_neg (by omega)] at this; exact this
        have zi : ∀ b, b < n → MF p Z i b = MF p V i b := fun b hb => by have := hZ2 i hin b hb; rw [if_neg (by omega)] at this; exact this
        have row : ∀ b, b < n → MF p W i b = MF p Z i b - MF p V i c * cF p y * MF p Z c b := fun b hb => by
          rw [hW2 i hin b hb, ti]
          by_cases q : c ≤ b
          · rw [if_pos ⟨rfl, q⟩]
          · rw [if_neg (fun w => q w.2), zc b hb, hlow b (by omega) c (by omega) hcn', fb6]
        refine gChk ⟨by omega, by omega⟩ (gSome ⟨hin, by simp, by omega, hW, ?_, fun a ha b hb => ?_⟩)
        · rw [← hDZ, ← (D_alt n).rowop (MF p Z) hin hcn' (show c ≠ i by omega) (MF p V i c * cF p y)]
          refine D_congr fun a ha b hb => ?_
          by_cases q : a = i
          · rw [q, up_at]; exact row b hb
          · rw [up_ne _ _ q, hW2 a ha b hb, if_neg (fun w => q w.1)]
        · by_cases q : a = i
          · rw [q, row b hb, if_pos ⟨by omega, by omega⟩, zi b hb, zc b hb]
          · rw [hW2 a ha b hb, if_neg (fun w => q w.1), hZ2 a ha b hb]
            by_cases w : c < a ∧ a < i
            · rw [if_pos w, if_pos ⟨w.1, by omega⟩]
            · rw [if_neg w, if_neg (by omega)]
      · rintro W ⟨hW, hDW, hW2⟩
        refine gChk ⟨by omega, by omega⟩ (gSome ⟨hcn', by simp, hW, tmod_bd m1.1, fun j hj i hij hi => ?_, σ, by rw [hDW]; exact hσ, ?_⟩)
        · rw [hW2 i hi j (by omega)]
          rcases Nat.lt_succ_iff_lt_or_eq.1 hj with w | w
          · rw [hlow j w i hij hi, hlow j w c w hcn', fb6]
            split
            · rfl
            · rfl
          · subst w
            rw [if_pos hij]
            exact di5 _ _ _ hy3
        · rw [cF_tmod m1.1, cF_mul, hs]
          show _ = σ * (Pd c _ * MF p W c c)
          rw [Pd_congr (f := fun i => MF p W i i) (g := fun i => MF p V i i) fun i hi => by rw [hW2 i (by omega) i (by omega), if_neg (by omega)], hW2 c hcn' c hcn', if_neg (Nat.lt_irrefl _)]
          exact di3 _ _ _
    · intro j hj
      have hlV := hV0.len
      simp only [toNat_nat]
      refine gIte (fun h3 => ?_) fun h3 => ?_
      · have hce : c < e := by omega
        refine gChk ⟨by omega, by omega⟩ (gChk ⟨by omega, by omega⟩ (gChk ⟨by omega, by omega⟩ (gChk ⟨by omega, by omega⟩ (gChk ⟨⟨by omega, by omega⟩, by omega⟩ (hj _ ?_)))))
        have hS := hV0.swap her hcn'
        have hMS := MF_swap hV0 her hcn'
        have hfix : ∀ i, i < c → sw e c i = i := fun i hi => by unfold sw; rw [if_neg (by omega), if_neg (by omega)]
        have hge : ∀ i, c ≤ i → i < n → c ≤ sw e c i ∧ sw e c i < n := fun i hi hn => by unfold sw; split <;> (try split) <;> omega
        refine ⟨hS, tmod_bd (by omega), fun j hj i hij hi => ?_, ⟨- σ0, ?_, ?_⟩, ?_⟩
        · rw [hMS]
          rcases Nat.lt_or_ge i c with w | w
          · rw [hfix i w]; exact hlow0 j hj i hij hi
          · obtain ⟨a, b⟩ := hge i w hi
            exact hlow0 j hj _ (by omega) b
        · have e5 : D n (MF p ((V0.set e (V0.getD c [])).set c (V0.getD e []))) = - D n (MF p V0) := by
            rw [← (D_alt n).swap2 (MF p V0) hce her]
            exact D_congr fun i hi j hj => by rw [hMS, sw_comm]
          rw [hσ0, e5]; exact di1 _ _
        · dsimp only
          rw [cF_tmod (by omega), cF_sub, cF_self, hs0, di4, Pd_congr (f := fun i => MF p ((V0.set e (V0.getD c [])).set c (V0.getD e [])) i i) (g := fun i => MF p V0 i i) fun i hi => by rw [hMS, hfix i hi]]
          exact di2 _ _
        · rw [hMS]
          have : sw e c c = e := by unfold sw; rw [if_pos rfl]
          rw [this]; exact e4 her
      · have hce : e = c := by omega
        exact hj _ ⟨hV0, hd0, hlow0, ⟨σ0, hσ0, hs0⟩, by have := e4 her; rw [hce] at this; exact this⟩
  · rintro (d | y) hz
    · exact gSome ⟨d, rfl, hz⟩
    · exact gSome hz
theorem Det_shape {P C : Int} {X : List (List Int)} (h : CM P C X) (hne : (X.length : Int) ≠ C) : Gets (field_Determinant P C X) (fun y => y = (0, 3)) := by
  unfold field_Determinant
  exact gBind h.good fun e he => gIte (fun q => absurd he q) fun _ => gIte (fun _ => gSome rfl) fun q => absurd hne q
end
end Go.SH
