/-
 The law TutteReciprocity as a plain law. Conditions: none.
-/
import Derived.Test.YtlpikingpnenkaaDoorLrC
set_option linter.unusedSimpArgs false
set_option linter.unusedVariables false
namespace Go.SH
open Go Go.AX
theorem chrom_one : Gets (tutte_Chromatic 1 []) (fun r => r.2 = 0 ∧ r.1 = [0, 1]) := by
 refine (Chromatic_spec 1 []).mono ?_
 rintro ⟨l, e⟩ (⟨h1, h2⟩ | ⟨h1, N, h2, h3, h4, h5, h6⟩)
 ·have hc : kinds_CheckGraph 1 [] = some 0 := by
   unfold kinds_CheckGraph
   rw [if_neg (by simp), loopM_inr (r := .inl ()) (by simp [chk])]
   rfl
  exfalso
  rw [hc] at h2
  exact h1 (Option.some.inj h2.2).symm
 ·dsimp only at h1 h2 h4 h5 h6 ⊢
  have hN : N = 1 := by omega
  subst hN
  refine ⟨h1, ?_⟩
  match l, h4, h6 with
  | [a, b], _, h6 =>
   have e0 := h6 0
   have e1 := h6 1
   have s0 : (sm (2 ^ ([] : List (Int × Int)).length) fun s => sn (cn s ([] : List (Int × Int)).length) * (0 : Int) ^ pcn 1 [] s ([] : List (Int × Int)).length) = 0 := by decide
   have s1 : (sm (2 ^ ([] : List (Int × Int)).length) fun s => sn (cn s ([] : List (Int × Int)).length) * (1 : Int) ^ pcn 1 [] s ([] : List (Int × Int)).length) = 1 := by decide
   rw [s0] at e0
   rw [s1] at e1
   simp only [pval] at e0 e1
   have ea : a = 0 := by omega
   have eb : b = 1 := by omega
   rw [ea, eb]
/-- A code's colour at x. -/
def cl (K C x : Nat) : Int := ((C / K ^ x % K : Nat) : Int)
/-- Heights are there. -/
def Ac (E : List (Int × Int)) (M m : Nat) : Prop := ∃ h : Nat → Int, ∀ i, i < m → h (oA E M 0 i) < h (oB E M 0 i)
open Classical in
noncomputable def iC (E : List (Int × Int)) (K M m C : Nat) : Int := if ∀ i, i < m → cl K C (oB E M 0 i) ≤ cl K C (oA E M 0 i) then 1 else 0
open Classical in
noncomputable def Wt (N K : Nat) (E : List (Int × Int)) (m M : Nat) : Int := if Ac E M m then sm (K ^ N) (iC E K M m) else 0
theorem iC_bd (E : List (Int × Int)) (K M m C : Nat) : 0 ≤ iC E K M m C ∧ iC E K M m C ≤ 1 := by unfold iC; split <;> omega
theorem smi_bd {n : Nat} {f : Nat → Int} {b : Int} (h : ∀ i, 0 ≤ f i ∧ f i ≤ b) : 0 ≤ sm n f ∧ sm n f ≤ n * b := by
 have h1 := sm_le (n := n) (f := fun _ => 0) (g := f) fun i _ => (h i).1
 have h2 := sm_le (n := n) (f := f) (g := fun _ => b) fun i _ => (h i).2
 rw [sm_const] at h1 h2
 omega
theorem Wt_bd {N K : Nat} {E : List (Int × Int)} {m : Nat} (hK : K ^ N ≤ 32) (M : Nat) : 0 ≤ Wt N K E m M ∧ Wt N K E m M ≤ 32 := by
 unfold Wt
 split
 ·have := smi_bd (n := K ^ N) (b := 1) (iC_bd E K M m); omega
 ·omega
open Classical in
theorem Wt_sum {N K : Nat} {E : List (Int × Int)} {m : Nat} (hK : 0 < K) (hE : Ends N E m) : sm (2 ^ m) (Wt N K E m) = sm (2 ^ m) fun s => sn (nu E s m) * (K : Int) ^ pcn N E s m := by
 rw [← stanley hK hE, sm_congr (n := K ^ N) fun C _ => Ro_masks m 0 fun _ => True, sm_swap]
 refine sm_congr fun M _ => ?_
 unfold Wt
 by_cases c : Ac E M m
 ·rw [if_pos c]
  refine sm_congr fun C _ => ?_
  unfold iC
  have iff : (∀ i, i < m → cl K C (oB E M 0 i) ≤ cl K C (oA E M 0 i)) ↔ ((∀ i, i < m → (fun x => ((C / K ^ x % K : Nat) : Int)) (oB E M 0 i) ≤ (fun x => ((C / K ^ x % K : Nat) : Int)) (oA E M 0 i)) ∧ ∃ h : Nat → Int, True ∧ ∀ i, i < m → h (oA E M 0 i) < h (oB E M 0 i)) := by
   obtain ⟨g, hg⟩ := c
   exact ⟨fun h => ⟨h, g, trivial, hg⟩, fun h => h.1⟩
  simp only [iff]
 ·rw [if_neg c]
  exact (sm_zero fun C _ => if_neg fun h => c (by obtain ⟨_, g, _, hg⟩ := h; exact ⟨g, hg⟩)).symm
theorem sign_sum {N K : Nat} {E : List (Int × Int)} {m : Nat} (hE : Ends N E m) : (sm (2 ^ m) fun s => sn (nu E s m) * (K : Int) ^ pcn N E s m) = sn N * sm (2 ^ m) fun s => sn (cn s m) * (-(K : Int)) ^ pcn N E s m := by
 rw [← sm_mulf]
 refine sm_congr fun s _ => ?_
 rw [neg_pow, ← Int.mul_assoc, ← Int.mul_assoc, sn_mul, Int.mul_assoc, ← Int.mul_assoc, sn_mul]
 congr 1
 have := pcn_eq m hE (s := s)
 unfold sn
 split <;> split <;> omega
theorem oAB {N : Nat} {E : List (Int × Int)} (h : Gra N E) (M : Nat) {i : Nat} (hi : i < E.length) : oA E M 0 i < N ∧ oB E M 0 i < N := by
 obtain ⟨_, _, u3, u4⟩ := h.eu hi
 unfold oA oB
 rw [Nat.zero_add]
 split <;> exact ⟨by assumption, by assumption⟩
/-- One orientation's colours. -/
theorem rotakeep_TutteReciprocity_law (n : Int) (E : List (Int × Int)) (a1 : Int) (h1 : -9223372036854775808 ≤ a1) (h2 : a1 ≤ 9223372036854775807) : rotakeep_TutteReciprocity n E a1 = some true := by
  refine Gets.eq ?_
  unfold rotakeep_TutteReciprocity
  refine gBind chrom_one fun y hy => gIte (fun _ => ?_) fun q => absurd (fun r => r hy.1) q
  refine gBindE (Same_spec hy.2 (by rw [hy.2]; simp)) (gIte (fun q => absurd rfl q) fun _ => ?_)
  refine gBind (Chromatic_spec n E) fun y2 hy2 => ?_
  refine gIte (fun _ => gSome ?_) fun hc => ?_
  · rw [decide_eq_true_iff]
    rcases hy2 with ⟨g1, g2, _⟩ | ⟨g1, _⟩
    · right; rw [g2]; rfl
    · exact .inl g1
  rcases hy2 with ⟨g1, g2, _⟩ | ⟨g1, N, rfl, hG, hL, hB, hP⟩
  · exact absurd (.inl (.inl g1)) hc
  have hN5 : N ≤ 5 := by omega
  have hm6 : E.length ≤ 6 := by omega
  refine gBind (show Gets (rotaref_Pick a1 2) _ from Pick_spec a1 2 (by omega) h1 h2) ?_
  rintro _ ⟨b, rfl, hb⟩
  obtain ⟨K, hK⟩ : ∃ K, K = b + 1 := ⟨_, rfl⟩
  have eK : 1 + (b : Int) = (K : Int) := by omega
  rw [eK]
  have hK0 : 0 < K := by omega
  have hK2 : K ≤ 2 := by omega
  have hKN : K ^ N ≤ 32 := by
    have e1 : K ^ N ≤ 2 ^ N := Nat.pow_le_pow_left hK2 N
    have e2 : 2 ^ N ≤ 2 ^ 5 := Nat.pow_le_pow_right (by omega) hN5
    omega
  generalize hm : E.length = m at *
  have hpw : 2 ^ m ≤ 2 ^ 6 := Nat.pow_le_pow_right (by omega) hm6
  have hE : Ends N E m := hG.en (by omega)
  have hWb : ∀ k, 0 ≤ sm k (Wt N K E m) ∧ sm k (Wt N K E m) ≤ k * 32 := fun k => smi_bd (Wt_bd hKN)
  refine gChk (by omega) (gChk (by omega) ?_)
  rw [shl_nat]
  refine gBind (R := fun v : Int => v = sm (2 ^ m) (Wt N K E m)) (gFor (2 ^ m) (fun (k : Nat) (z : Int × Int) => z.2 = (k : Int) ∧ z.1 = sm k (Wt N K E m)) (Nat.zero_le _) ⟨rfl, rfl⟩ ?_) ?_
  · rintro M ⟨v, v1⟩ hM ⟨e1, e2⟩
    dsimp only at e1 e2 ⊢
    subst e1
    refine gIte (fun q => ?_) fun q => gSome (by have : M = 2 ^ m := by omega
                                                 subst this; exact e2)
    have hM' : M < 2 ^ m := by omega
    have hvb := hWb M
    rw [← e2] at hvb
    refine gBind (R := fun D : List (Int × Int) => D.length = m ∧ ∀ i, i < m → D.getD i (0, 0) = ((oA E M 0 i : Int), (oB E M 0 i : Int)))
      (gFor m (fun (k : Nat) (z : List (Int × Int) × Int) => z.2 = (k : Int) ∧ z.1.length = k ∧ ∀ i, i < k → z.1.getD i (0, 0) = ((oA E M 0 i : Int), (oB E M 0 i : Int))) (Nat.zero_le _) ⟨rfl, rfl, fun i hi => absurd hi (Nat.not_lt_zero _)⟩ ?_) ?_
    · rintro k ⟨D, v4⟩ hk ⟨f1, f2, f3⟩
      dsimp only at f1 f2 f3 ⊢
      subst f1
      refine gIte (fun q2 => ?_) fun q2 => gSome (by have : k = m := by omega
                                                     subst this; exact ⟨f2, f3⟩)
      have hk' : k < m := by omega
      obtain ⟨u1, u2, u3, u4⟩ := hG.eu (k := k) (by omega)
      have app : ∀ (a b : Int), a = (oA E M 0 k : Int) → b = (oB E M 0 k : Int) → ∀ i, i < k + 1 → (D ++ [(a, b)]).getD i (0, 0) = ((oA E M 0 i : Int), (oB E M 0 i : Int)) := fun a b ha hb i hi => by
        rcases Nat.lt_or_ge i k with c | c
        · rw [← f3 i c, List.getD_eq_getElem?_getD, List.getD_eq_getElem?_getD, List.getElem?_append_left (by omega)]
        · have : i = k := by omega
          subst this
          rw [List.getD_eq_getElem?_getD, List.getElem?_append_right (by omega), f2, Nat.sub_self, ha, hb]; rfl
      refine gChk (by omega) (gBindE (In_nat M k) ?_)
      rw [toNat_nat, u1, u2]
      refine gIte (fun q3 => gChk (by simp only [List.length_append, List.length_cons, List.length_nil]; omega) (gSome ⟨hk', by simp, by simp [f2], app _ _ ?_ ?_⟩)) fun q3 => gChk (by simp only [List.length_append, List.length_cons, List.length_nil]; omega) (gSome ⟨hk', by simp, by simp [f2], app _ _ ?_ ?_⟩)
      · unfold oA; rw [if_pos q3, Nat.zero_add]
      · unfold oB; rw [if_pos q3, Nat.zero_add]
      · unfold oA; rw [if_neg q3, Nat.zero_add]
      · unfold oB; rw [if_neg q3, Nat.zero_add]
    · rintro D ⟨d1, d2⟩
      have hD : Gra N D := ⟨hG.n1, hG.n7, by omega, fun k hk => by
        have := oAB hG M (i := k) (by omega)
        rw [d2 k (by omega)]
        dsimp only; omega⟩
      have dU : ∀ i, i < m → eU D i = oA E M 0 i := fun i hi => by unfold eU; rw [d2 i hi]; rfl
      have dV : ∀ i, i < m → eV D i = oB E M 0 i := fun i hi => by unfold eV; rw [d2 i hi]; rfl
      refine gBind (ringed_spec hD) fun r hr => ?_
      have hrA : r = false ↔ Ac E M m := by
        rw [hr, d1]
        constructor <;> rintro ⟨g, hg⟩ <;> refine ⟨g, fun i hi => ?_⟩
        · have := hg i hi; rwa [dU i hi, dV i hi] at this
        · have := hg i hi; rwa [dU i hi, dV i hi]
      refine gIte (fun q3 => gSome ⟨by omega, by simp, ?_⟩) fun q3 => ?_
      · dsimp only
        have : Wt N K E m M = 0 := by
          unfold Wt; rw [if_neg]; intro h; rw [hrA.2 h] at q3; cases q3
        rw [sm, this, ← e2]; omega
      have hAc : Ac E M m := hrA.1 (by simpa using q3)
      have hW : Wt N K E m M = sm (K ^ N) (iC E K M m) := by unfold Wt; rw [if_pos hAc]
      refine gBindE (power_spec hK2 (by omega)) ?_
      refine gBind (R := fun x : Int => x = v + sm (K ^ N) (iC E K M m)) (gFor (K ^ N) (fun (k : Nat) (z : Int × Int) => z.2 = (k : Int) ∧ z.1 = v + sm k (iC E K M m)) (Nat.zero_le _) ⟨rfl, by simp [sm]⟩ ?_) fun x hx => gSome ⟨by omega, by simp, by dsimp only; rw [hx, sm, hW, e2]⟩
      rintro C ⟨v6, v7⟩ hC ⟨p1, p2⟩
      dsimp only at p1 p2 ⊢
      subst p1
      refine gIte (fun q4 => ?_) fun q4 => gSome (by have : C = K ^ N := by omega
                                                     subst this; exact p2)
      have hC' : C < K ^ N := by omega
      have hib := smi_bd (n := C) (b := 1) (iC_bd E K M m)
      refine gBind (R := fun x : Bool => x = true ↔ ∀ i, i < m → cl K C (oB E M 0 i) ≤ cl K C (oA E M 0 i)) (gFor m (fun (k : Nat) (z : Bool × Int) => z.2 = (k : Int) ∧ (z.1 = true ↔ ∀ i, i < k → cl K C (oB E M 0 i) ≤ cl K C (oA E M 0 i))) (Nat.zero_le _) ⟨rfl, ⟨fun _ i hi => by omega, fun _ => rfl⟩⟩ ?_) ?_
      · rintro k ⟨v9, v10⟩ hk ⟨s1, s2⟩
        dsimp only at s1 s2 ⊢
        subst s1
        refine gIte (fun q5 => ?_) fun q5 => gSome (by have : k = m := by omega
                                                       subst this; exact s2)
        have hk' : k < m := by omega
        obtain ⟨o1, o2⟩ := oAB hG M (i := k) (by omega)
        rw [toNat_nat, d2 k hk']
        refine gChk (by omega) ?_
        have iff : (∀ i, i < k + 1 → cl K C (oB E M 0 i) ≤ cl K C (oA E M 0 i)) ↔ (∀ i, i < k → cl K C (oB E M 0 i) ≤ cl K C (oA E M 0 i)) ∧ cl K C (oB E M 0 k) ≤ cl K C (oA E M 0 k) := by
          constructor
          · intro h; exact ⟨fun i hi => h i (by omega), h k (by omega)⟩
          · rintro ⟨h, h'⟩ i hi
            rcases Nat.lt_or_ge i k with c | c
            · exact h i c
            · have : i = k := by omega
              subst this; exact h'
        cases v9 with
        | false =>
          rw [if_neg (by simp)]
          simp only [Option.bind_some]
          refine gChk ⟨fun h => by simp at h, fun h => by simp at h, fun h => by simp at h⟩ (gChk ⟨fun h => by simp at h, fun h => by simp at h, fun h => by simp at h⟩ (gSome ⟨hk', by simp, ?_⟩))
          dsimp only
          rw [decide_eq_true_iff, iff]
          constructor
          · rintro ⟨h, _⟩; cases h
          · rintro ⟨h, _⟩; have := s2.2 h; cases this
        | true =>
          have dv : ∀ x, x < N → Gets (rotakeep_power (K : Int) (x : Int)) (fun w => w ≠ 0 ∧ Int.tdiv (C : Int) w = ((C / K ^ x : Nat) : Int)) := fun x hx => by
            rw [power_spec hK2 (by omega)]
            have : 0 < K ^ x := Nat.pow_pos hK0
            exact gSome ⟨by omega, by rw [Int.tdiv_eq_ediv_of_nonneg (Int.natCast_nonneg _)]; rfl⟩
          have bd : ∀ x, C / K ^ x ≤ C := fun x => Nat.div_le_self _ _
          rw [if_pos rfl, if_pos rfl]
          have bI : ∀ x, -9223372036854775808 ≤ ((C / K ^ x : Nat) : Int) ∧ ((C / K ^ x : Nat) : Int) ≤ 9223372036854775807 := fun x => by
            have := bd x
            generalize C / K ^ x = z at *
            omega
          refine gBind (dv _ o1) fun wA hA => gChk ⟨fun _ => hA.1, fun _ => by rw [hA.2]; exact bI _, fun _ => by omega⟩ ?_
          refine gBind (dv _ o2) fun wB' hB' => gChk ⟨fun _ => hB'.1, fun _ => by rw [hB'.2]; exact bI _, fun _ => by omega⟩ (gSome ⟨hk', by simp, ?_⟩)
          dsimp only
          have em : ∀ x, Int.tmod ((C / K ^ x : Nat) : Int) (K : Int) = cl K C x := fun x => by
            rw [Int.tmod_eq_emod_of_nonneg (Int.natCast_nonneg _)]; rfl
          rw [decide_eq_true_iff, iff, hA.2, hB'.2, em, em]
          exact ⟨fun h => ⟨s2.1 rfl, h.2⟩, fun h => ⟨rfl, h.2⟩⟩
      · intro x hx
        refine gIte (fun q5 => gChk (by omega) (gSome ⟨hC', by simp, ?_⟩)) fun q5 => gSome ⟨hC', by simp, ?_⟩
        · dsimp only
          have : iC E K M m C = 1 := by unfold iC; rw [if_pos (hx.1 q5)]
          rw [sm, this, p2]; omega
        · dsimp only
          have : iC E K M m C = 0 := by unfold iC; rw [if_neg fun h => q5 (hx.2 h)]
          rw [sm, this, p2]; omega
  · intro v hv
    have hvb := hWb (2 ^ m)
    rw [← hv] at hvb
    rw [Wt_sum hK0 hE, sign_sum hE, ← hP] at hv
    obtain ⟨V, rfl⟩ := Int.eq_ofNat_of_zero_le hvb.1
    refine gChk (by omega) ?_
    refine gBind (value_spec (fun i _ => by have := hB i; omega) (by omega) (by omega)) fun y9 hy9 => ?_
    refine gJoin (R := fun z : Bool × List Int => Bg z (V : Int)) ?_ ?_
    · rintro ⟨v12, v13⟩ hz
      dsimp only
      refine gBindE (String_spec (x := (v12, v13)) hz (by omega)) ?_
      refine gBindE (show strconv_Itoa (V : Int) = some (Lib.itoa (V : Int)) by unfold strconv_Itoa; exact chk_pos (by omega)) (gSome ?_)
      rw [decide_eq_true_iff]
    · intro j hj
      have et : Int.tmod (N : Int) 2 = (N : Int) % 2 := Int.tmod_eq_emod_of_nonneg (by omega)
      rw [et]
      refine gIte (fun q => ?_) fun q => ?_
      · have es : sn N = -1 := by unfold sn; rw [if_neg (by omega)]
        rw [es] at hv
        have hlen := hy9.len (k := 1) (by show _ < (4294967296 : Int) ^ 1; omega)
        refine gBind (neg_spec (x := (y9.1, y9.2)) hy9 (by show y9.2.length < _; omega)) fun y10 h10 => hj _ ?_
        have e : -pval y2.1 (-(K : Int)) = (V : Int) := by omega
        rw [e] at h10; exact h10
      · have es : sn N = 1 := by unfold sn; rw [if_pos (by omega)]
        rw [es] at hv
        have e : pval y2.1 (-(K : Int)) = (V : Int) := by omega
        rw [e] at hy9; exact hj _ hy9
end Go.SH
