/-
  The statement GameLehman as a plain law: the end. Conditions: none.
-/
import Derived.Test.YthofnmjokdjppaaLGv
set_option linter.unusedSimpArgs false
set_option linter.unusedVariables false
namespace Go.SH
open Go Go.AX

section
variable {N : Nat} {E : List (Int × Int)} {s t : Nat}

def vend (E : List (Int × Int)) (a u : Nat) : Nat → Nat
  | 0 => u
  | k + 1 => if a.testBit k = true then vend E a u k ||| (2 ^ hA E k ||| 2 ^ hB E k) else vend E a u k
def need (s t : Nat) : Nat := 2 ^ s ||| 2 ^ t
/-- The vertices of some edges. -/
def Vof (E : List (Int × Int)) (s t a : Nat) : Nat := vend E a (if a = 0 then need s t else 0) E.length
theorem vend_bit (a u v : Nat) : ∀ k, (vend E a u k).testBit v = true ↔ u.testBit v = true ∨ ∃ j, j < k ∧ a.testBit j = true ∧ (v = hA E j ∨ v = hB E j)
  | 0 => by simp [vend]
  | k + 1 => by
    have ih := vend_bit a u v k
    unfold vend
    split
    · rename_i c
      rw [Nat.testBit_or, Nat.testBit_or, testBit_pow, testBit_pow, Bool.or_eq_true, Bool.or_eq_true, decide_eq_true_eq, decide_eq_true_eq, ih]
      constructor
      · rintro ((h | ⟨j, h1, h2⟩) | h | h)
        · exact .inl h
        · exact .inr ⟨j, by omega, h2⟩
        · exact .inr ⟨k, by omega, c, .inl h.symm⟩
        · exact .inr ⟨k, by omega, c, .inr h.symm⟩
      · rintro (h | ⟨j, h1, h2, h3⟩)
        · exact .inl (.inl h)
        · by_cases e : j = k
          · subst e
            exact .inr (h3.imp Eq.symm Eq.symm)
          · exact .inl (.inr ⟨j, by omega, h2, h3⟩)
    · rename_i c
      rw [ih]
      refine or_congr Iff.rfl ⟨fun ⟨j, h1, h2⟩ => ⟨j, by omega, h2⟩, fun ⟨j, h1, h2, h3⟩ => ⟨j, ?_, h2, h3⟩⟩
      have : j ≠ k := by rintro rfl; exact c h2
      omega
theorem need_bit (v : Nat) : (need s t).testBit v = true ↔ v = s ∨ v = t := by
  unfold need
  rw [Nat.testBit_or, testBit_pow, testBit_pow, Bool.or_eq_true, decide_eq_true_eq, decide_eq_true_eq]
  exact or_congr eq_comm eq_comm
theorem Vof_lt (hG : Gra N E) (hs : s < N) (ht : t < N) (a : Nat) : Vof E s t a < 2 ^ N := lt_of_bits fun i hi => by
  cases c : (Vof E s t a).testBit i with
  | false => rfl
  | true =>
    exfalso
    rw [Vof, vend_bit] at c
    rcases c with c | ⟨j, h1, _, h2⟩
    · split at c
      · rw [need_bit] at c; omega
      · rw [Nat.zero_testBit] at c; cases c
    · have := hG.ends' j h1; omega

def T1 (N : Nat) (E : List (Int × Int)) (s t a : Nat) : Prop := Vof E s t a &&& need s t = need s t ∧ SP N E a (Vof E s t a)
def T2 (N : Nat) (E : List (Int × Int)) (s t a b : Nat) : Prop := a &&& b = 0 ∧ SP N E b (Vof E s t a)

theorem T1.bits {a : Nat} (h : T1 N E s t a) : (Vof E s t a).testBit s = true ∧ (Vof E s t a).testBit t = true := by
  have h1 := (sub_iff_and (need s t) (Vof E s t a)).1 (by rw [Nat.and_comm]; exact h.1)
  exact ⟨h1 s ((need_bit s).2 (.inl rfl)), h1 t ((need_bit t).2 (.inr rfl))⟩
theorem SP.con (hG : Gra N E) {e V v0 : Nat} (hV : V < 2 ^ N) (h0 : V.testBit v0 = true) (h : SP N E e V) : lo1 V < N ∧ ∀ v, V.testBit v = true ↔ Con E e (lo1 V) v := by
  have h7 : 2 ^ N ≤ 2 ^ 8 := Nat.pow_le_pow_right (by omega) (by have := hG.n7; omega)
  have L := low_spec (t := V) (by omega) (by rintro rfl; rw [Nat.zero_testBit] at h0; cases h0)
  have hl : lo1 V < N := bit_lt hV L.bit
  refine ⟨hl, fun v => ?_⟩
  have := hrn_iff hG.ends' (J := e) (v := v) hl
  rw [h.2] at this
  exact this

theorem sound (hG : Gra N E) (hs : s < N) (ht : t < N) {a b : Nat} (h1 : T1 N E s t a) (h2 : T2 N E s t a b) : Wn N E s t 0 0 false ∧ Hang N E s t a ∧ Hang N E s t b ∧ cnt 8 a = cnt 8 b := by
  have hV := Vof_lt hG hs ht a
  obtain ⟨b1, b2⟩ := h1.bits
  obtain ⟨hl, ca⟩ := h1.2.con hG hV b1
  obtain ⟨_, cb⟩ := h2.2.con hG hV b1
  refine ⟨win_of_trees hG hs ht hl ((disj_iff a b).1 h2.1) b1 b2 ca cb, (Hang_iff hG.ends' hs).2 (((ca s).1 b1).symm.trans ((ca t).1 b2)), (Hang_iff hG.ends' hs).2 (((cb s).1 b1).symm.trans ((cb t).1 b2)), ?_⟩
  have q1 := h1.2.1
  have q2 := h2.2.1
  omega

theorem complete (hG : Gra N E) (hs : s < N) (ht : t < N) (h : Wn N E s t 0 0 false) : ∃ a b, a < 2 ^ E.length ∧ b < 2 ^ E.length ∧ T1 N E s t a ∧ T2 N E s t a b := by
  obtain ⟨a, b, V, ha, hb, hV, hab, hVs, hVt, ca, cb, na, nb, hin⟩ := trees_of_win hG hs ht h
  have hE := hG.ends'
  have h7 : 2 ^ N ≤ 2 ^ 8 := Nat.pow_le_pow_right (by omega) (by have := hG.n7; omega)
  have hV8 : cnt 8 V = cnt N V := cnt_of_lt hV (by have := hG.n7; omega)
  have L := low_spec (t := V) (by omega) (by rintro rfl; rw [Nat.zero_testBit] at hVs; cases hVs)
  have hl : lo1 V < N := bit_lt hV L.bit
  have sp : ∀ {e : Nat}, (∀ v, V.testBit v = true ↔ Con E e s v) → cnt 8 e + 1 = cnt N V → SP N E e V := fun {e} ce ne => by
    refine ⟨by omega, set_ext (hrn_lt hE hl N) hV fun i _ => ?_⟩
    rw [Bool.eq_iff_iff, hrn_iff hE hl, ce]
    have hls := (ce (lo1 V)).1 L.bit
    exact ⟨fun q => hls.trans q, fun q => hls.symm.trans q⟩
  have eV : Vof E s t a = V := by
    refine set_ext (Vof_lt hG hs ht a) hV fun v _ => ?_
    rw [Bool.eq_iff_iff, Vof, vend_bit]
    have inV : ∀ {j : Nat}, j < E.length → a.testBit j = true → V.testBit (hA E j) = true ∧ V.testBit (hB E j) = true := fun {j} hj ja => ⟨hin j ja, (ca _).2 (((ca _).1 (hin j ja)).trans (.edge hj ja))⟩
    constructor
    · rintro (c | ⟨j, j1, j2, j3⟩)
      · split at c
        · rw [need_bit] at c
          rcases c with rfl | rfl
          · exact hVs
          · exact hVt
        · rw [Nat.zero_testBit] at c; cases c
      · rcases j3 with rfl | rfl
        · exact (inV j1 j2).1
        · exact (inV j1 j2).2
    · intro hv
      by_cases a0 : a = 0
      · rw [if_pos a0, need_bit]
        have hc := (ca v).1 hv
        rw [a0] at hc
        cases hc with
        | refl => exact .inl (.inl rfl)
        | tail _ q =>
          obtain ⟨k, _, k2, _⟩ := q
          rw [Nat.zero_testBit] at k2; cases k2
      · right
        have last : ∀ {x y : Nat}, Con E a x y → y ≠ x → ∃ j, j < E.length ∧ a.testBit j = true ∧ (y = hA E j ∨ y = hB E j) := fun {x y} h hne => by
          cases h with
          | refl => exact absurd rfl hne
          | tail _ q =>
            obtain ⟨k, k1, k2, k3⟩ := q
            exact ⟨k, k1, k2, k3.elim (fun z => .inr z.2) fun z => .inl z.2⟩
        by_cases hvs : v = s
        · subst hvs
          obtain ⟨k, hk⟩ := exists_bit a0
          have hkm := bit_lt ha hk
          by_cases e : v = hA E k
          · exact ⟨k, hkm, hk, .inl e⟩
          · exact last ((ca _).1 (inV hkm hk).1).symm e
        · exact last ((ca v).1 hv) hvs
  refine ⟨a, b, ha, hb, ⟨?_, by rw [eV]; exact sp ca na⟩, (disj_iff a b).2 hab, by rw [eV]; exact sp cb nb⟩
  rw [eV, Nat.and_comm]
  exact (sub_iff_and _ _).2 fun i hi => by
    rw [need_bit] at hi
    rcases hi with rfl | rfl
    · exact hVs
    · exact hVt

theorem gTwins (hP : Pos N E s t 0 0) : Gets (game_Twins N E s t) (fun r => (r.2.2 = 0 ∧ ∃ a b : Nat, r.1 = a ∧ r.2.1 = b ∧ T1 N E s t a ∧ T2 N E s t a b ∧ a < 2 ^ E.length ∧ b < 2 ^ E.length) ∨ (r.2.2 = 5 ∧ r.1 = 0 ∧ r.2.1 = 0 ∧ ∀ a b, a < 2 ^ E.length → b < 2 ^ E.length → T1 N E s t a → ¬ T2 N E s t a b)) := by
  have hG := hP.g
  have hs := hP.s
  have ht := hP.t
  have h7 := hG.n7
  have h8 := hG.e8
  have hp8 : 2 ^ E.length ≤ 256 := pow_le8 h8
  have hp7 : 2 ^ N ≤ 2 ^ 7 := Nat.pow_le_pow_right (by omega) h7
  have hC : game_Check (N : Int) E (s : Int) (t : Int) 0 0 = some 0 := gCheck_ok hP
  unfold game_Twins
  refine gBindE hC (gIte (fun h => absurd rfl h) fun _ => gChk (by omega) (gChk (by omega) ?_))
  have ep : (2 : Int) ^ ((E.length : Nat) : Int).toNat = ((2 ^ E.length : Nat) : Int) := shl_nat _
  rw [ep, shl_nat, shl_nat, or_nat]
  have en : 2 ^ s ||| 2 ^ t = need s t := rfl
  rw [en]
  refine gBind (R := fun z : Unit ⊕ (Int × Int × Int) => match z with
      | .inl _ => ∀ a b, a < 2 ^ E.length → b < 2 ^ E.length → T1 N E s t a → ¬ T2 N E s t a b
      | .inr r => r.2.2 = 0 ∧ ∃ a b : Nat, r.1 = a ∧ r.2.1 = b ∧ T1 N E s t a ∧ T2 N E s t a b ∧ a < 2 ^ E.length ∧ b < 2 ^ E.length)
    (gFor (2 ^ E.length) (fun k v => v = (k : Int) ∧ ∀ a, a < k → ∀ b, b < 2 ^ E.length → T1 N E s t a → ¬ T2 N E s t a b) (Nat.zero_le _) ⟨rfl, fun a ha => absurd ha (Nat.not_lt_zero a)⟩ ?_) ?_
  · rintro a v ha ⟨rfl, hno⟩
    refine gIte (fun l1 => ?_) fun l1 => gSome fun x b hx hb => hno x (by omega) b hb
    have ham : a < 2 ^ E.length := by omega
    refine gJoin (R := fun v1 => v1 = ((if a = 0 then need s t else 0 : Nat) : Int)) ?_ ?_
    rotate_left 1
    · intro j hj
      exact gIte (fun c => hj _ (by rw [if_neg (by omega)]; rfl)) fun c => hj _ (by rw [if_pos (by omega)])
    rintro _ rfl
    refine gBind (R := fun v4 => v4 = ((Vof E s t a : Nat) : Int)) (gFor E.length (fun k st => st = (((vend E a (if a = 0 then need s t else 0) k : Nat) : Int), (k : Int))) (Nat.zero_le _) rfl ?_) ?_
    · rintro i ⟨c, d⟩ hi hst
      simp only [Prod.mk.injEq] at hst
      obtain ⟨rfl, rfl⟩ := hst
      simp only
      refine gIte (fun h2 => ?_) fun h2 => gSome (by have : i = E.length := by omega
                                                     subst this; rfl)
      have hi2 : i < E.length := by omega
      obtain ⟨eA, lA⟩ := hG.eA hi2
      obtain ⟨eB, lB⟩ := hG.eB hi2
      simp only [show ((i : Int)).toNat = i from rfl, eA, eB]
      have cc : iand ((a : Int) / 2 ^ i) 1 = 1 ↔ a.testBit i = true := bit_iff a i
      refine gChk (by omega) (gChk (by omega) (gIte (fun h3 => gChk (by omega) (gSome ⟨by omega, ?_⟩)) fun h3 => gSome ⟨by omega, ?_⟩))
      · rw [cc] at h3
        simp only [Prod.mk.injEq]
        refine ⟨?_, by simp⟩
        simp only [vend, if_pos h3]
        rw [shl_nat, shl_nat, or_nat, or_nat]
      · rw [cc] at h3
        simp only [Prod.mk.injEq]
        refine ⟨?_, by simp⟩
        simp only [vend, if_neg h3]
    rintro _ rfl
    have hV := Vof_lt hG hs ht a
    rw [and_nat]
    have c1 : ((((Vof E s t a &&& need s t : Nat) : Int)) ≠ ((need s t : Nat) : Int)) ↔ ¬ (Vof E s t a &&& need s t = need s t) := not_congr (by omega)
    have hV0 : Vof E s t a &&& need s t = need s t → Vof E s t a ≠ 0 := fun q e => by
      rw [e, Nat.zero_and] at q
      have := (need_bit (s := s) (t := t) s).2 (.inl rfl)
      rw [← q, Nat.zero_testBit] at this; cases this
    refine gBind (R := fun y1 => (Vof E s t a &&& need s t = need s t ∧ y1 = true) ↔ T1 N E s t a) (gIte (fun q => ?_) fun q => gSome ?_) fun y1 hy1 => ?_
    · rw [c1, Classical.not_not] at q
      exact (gSpans hG (by omega) (by omega) (hV0 q)).mono fun y hy => and_congr Iff.rfl hy
    · rw [c1, Classical.not_not] at q
      exact ⟨fun z => absurd z.1 q, fun z => absurd z.1 q⟩
    refine gIte (fun q => gSome ⟨ham, by simp, step_all hno fun b _ h1 _ => ?_⟩) fun q => ?_
    · have := hy1.2 h1
      rcases q with q | q
      · exact (c1.1 q) this.1
      · exact q this.2
    have q1 : Vof E s t a &&& need s t = need s t := Classical.byContradiction fun c => q (.inl (c1.2 c))
    have q2 : y1 = true := Classical.byContradiction fun c => q (.inr c)
    have hT1 := hy1.1 ⟨q1, q2⟩
    refine gChk (by omega) ?_
    refine gBind (R := fun z : Unit ⊕ (Int × Int × Int) => match z with
        | .inl _ => ∀ b, b < 2 ^ E.length → ¬ T2 N E s t a b
        | .inr r => r.2.2 = 0 ∧ ∃ a b : Nat, r.1 = a ∧ r.2.1 = b ∧ T1 N E s t a ∧ T2 N E s t a b ∧ a < 2 ^ E.length ∧ b < 2 ^ E.length)
      (gFor (2 ^ E.length) (fun k v => v = (k : Int) ∧ ∀ b, b < k → ¬ T2 N E s t a b) (Nat.zero_le _) ⟨rfl, none_all⟩ ?_) ?_
    · rintro b v hb ⟨rfl, hnb⟩
      refine gIte (fun l2 => ?_) fun l2 => gSome fun x hx => hnb x (by omega)
      have hbm : b < 2 ^ E.length := by omega
      rw [and_nat]
      have c2 : (((a &&& b : Nat) : Int) = 0) ↔ a &&& b = 0 := by omega
      refine gBind (R := fun y2 => (a &&& b = 0 ∧ y2 = true) ↔ T2 N E s t a b) (gIte (fun q => ?_) fun q => gSome ?_) fun y2 hy2 => ?_
      · exact (gSpans hG (by omega) (by omega) (hV0 q1)).mono fun y hy => and_congr Iff.rfl hy
      · rw [c2] at q
        exact ⟨fun z => absurd z.1 q, fun z => absurd z.1 q⟩
      · refine gIte (fun q => gSome ⟨rfl, a, b, rfl, rfl, hT1, hy2.1 ⟨c2.1 q.1, q.2⟩, ham, hbm⟩) fun q => gSome ⟨hbm, by simp, step_all hnb fun h => q ?_⟩
        have := hy2.2 h
        exact ⟨c2.2 this.1, this.2⟩
    · rintro (u | rr) hz
      · exact gSome ⟨ham, by simp, step_all hno fun b hb _ => hz b hb⟩
      · exact gSome hz
  · rintro (u | rr) hz
    · exact gSome (.inr ⟨rfl, rfl, rfl, hz⟩)
    · exact gSome (.inl hz)
theorem gTwins_bad {n : Int} {a1 a2 c : Int} (h : game_Check n E a1 a2 0 0 = some c) (hc : c ≠ 0) : game_Twins n E a1 a2 = some (0, 0, c) :=
  Gets.eq (by unfold game_Twins; exact gBindE h (gIte (fun _ => gSome rfl) fun h => absurd hc h))
end

theorem first_two : Gets (game_Joins 2 [(0, 1)] 0 1 0 0 true) (fun r => r.2 = 0 ∧ r.1 = true) := by
  have hp : Pos 2 [(0, 1)] 0 1 0 0 := ⟨⟨by omega, by omega, by simp, fun k hk => by
    have : k = 0 := by simpa using hk
    subst this
    simp⟩, by omega, by omega, by simp, by simp, fun i _ => Nat.zero_testBit i⟩
  have h : Gets (game_Joins 2 [(0, 1)] 0 1 0 0 true) (fun r => r.2 = 0 ∧ (r.1 = true ↔ Wn 2 [(0, 1)] 0 1 0 0 true)) := gJoins_ok hp true
  refine h.mono fun r hr => ⟨hr.1, hr.2.2 ?_⟩
  show Win (Hang 2 [(0, 1)] 0 1) 1 1 0 0 true
  have h1 : Hang 2 [(0, 1)] 0 1 1 := by
    show (hrn [(0, 1)] 1 (2 ^ 0) 2).testBit 1 = true
    rfl
  exact .inr ⟨h1, 0, rfl, h1⟩

theorem rotakeep_GameLehman_law (n : Int) (E : List (Int × Int)) (a1 a2 : Int) : rotakeep_GameLehman n E a1 a2 = some true := by
  refine Gets.eq ?_
  unfold rotakeep_GameLehman
  refine gBind first_two fun y hy => gIte (fun h => ?_) fun _ => ?_
  · exfalso
    rcases h with h | h
    · exact h hy.1
    · exact h hy.2
  obtain ⟨c, hc, hcq⟩ := gCheck_spec n E a1 a2 0 0
  by_cases c0 : c = 0
  rotate_left 1
  · exact gBindE (gJoins_bad hc c0 false) (gBindE (gTwins_bad hc c0) (gIte (fun _ => gSome (by simp)) fun h => absurd c0 h))
  obtain ⟨N, s, t, J, C, rfl, rfl, rfl, eJ, eC, hP⟩ := hcq c0
  have eJ' : J = 0 := by omega
  have eC' : C = 0 := by omega
  subst eJ' eC'
  have hG := hP.g
  have hJ : Gets (game_Joins N E s t 0 0 false) (fun r => r.2 = 0 ∧ (r.1 = true ↔ Wn N E s t 0 0 false)) := gJoins_ok hP false
  refine gBind hJ fun y1 hy1 => gBind (gTwins hP) fun y2 hy2 => ?_
  refine gIte (fun h => absurd hy1.1 h) fun _ => ?_
  rcases hy2 with ⟨q0, a, b, e1, e2, t1, t2, _, _⟩ | ⟨q5, e1, e2, hno⟩
  · obtain ⟨w, ha, hb, hcn⟩ := sound hG hP.s hP.t t1 t2
    refine gIte (fun h => absurd ?_ h) fun _ => gIte (fun h => absurd q0 h) fun _ => ?_
    · exact ⟨fun _ => q0, fun _ => hy1.2.2 w⟩
    rw [e1, e2, and_nat, t2.1]
    have z : (((0 : Nat) : Int) = 0) := rfl
    refine gBind (R := fun y3 => y3 = true) (gIte (fun _ => (gJoined hG hP.s a).mono fun r hr => hr.2 ha) fun q => absurd z q) ?_
    rintro _ rfl
    refine gBind (R := fun y4 => y4 = true) (gIte (fun _ => (gJoined hG hP.s b).mono fun r hr => hr.2 hb) fun q => absurd ⟨z, rfl⟩ q) ?_
    rintro _ rfl
    rw [gSize, gSize]
    refine gBind (R := fun y5 => y5 = ((cnt 8 a : Nat) : Int)) (gIte (fun _ => gSome rfl) fun q => absurd ⟨⟨z, rfl⟩, rfl⟩ q) ?_
    rintro _ rfl
    refine gBind (R := fun y6 => y6 = ((cnt 8 b : Nat) : Int)) (gIte (fun _ => gSome rfl) fun q => absurd ⟨⟨z, rfl⟩, rfl⟩ q) ?_
    rintro _ rfl
    exact gSome (by simp [hcn])
  · have hnw : ¬ Wn N E s t 0 0 false := fun w => by
      obtain ⟨a, b, h1, h2, h3, h4⟩ := complete hG hP.s hP.t w
      exact hno a b h1 h2 h3 h4
    refine gIte (fun h => absurd ?_ h) fun _ => gIte (fun _ => gSome ?_) fun h => absurd (by omega) h
    · exact ⟨fun q => absurd (hy1.2.1 q) hnw, fun q => by omega⟩
    · simp [q5, e1, e2]
end Go.SH
