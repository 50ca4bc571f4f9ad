/-
  Orders that make one matroid another one, as they are sought. Conditions: at most eight elements.
-/
import Derived.Test.YthofnmjokdjppaaLSm
set_option linter.unusedSimpArgs false
set_option linter.unusedVariables false
namespace Go.SH
open Go Go.AX

/-- An order that goes on so, and makes ranks the same from there on. -/
def GoOn (n : Nat) (X Y : Nat → Nat) (P : List Nat) : Prop := ∃ π : Nat → Nat, Pla n n π ∧ (∀ i, i < P.length → π i = P.getD i 0) ∧ ∀ s, 2 ^ P.length ≤ s → s < 2 ^ n → X s = Y (im n n π s)
structure PreO (n : Nat) (P : List Nat) (used : Nat) : Prop where
  len : P.length ≤ n
  lt : ∀ i, i < P.length → P.getD i 0 < n
  nd : P.Nodup
  ul : used < 2 ^ n
  ub : ∀ x, used.testBit x = true ↔ x ∈ P
theorem app_getS {L : List Nat} {j a : Nat} (h : j < L.length) : (L ++ [a]).getD j 0 = L.getD j 0 := by
  rw [List.getD_eq_getElem?_getD, List.getD_eq_getElem?_getD, List.getElem?_append_left h]
theorem app_lastS {L : List Nat} {a : Nat} : (L ++ [a]).getD L.length 0 = a := by
  rw [List.getD_eq_getElem?_getD, List.getElem?_append_right (Nat.le_refl _), Nat.sub_self]; rfl
section
variable {n : Nat} {X Y : Nat → Nat} {P : List Nat} {used : Nat}
theorem im_agree {k : Nat} {π : Nat → Nat} {Q : List Nat} (hQ : Q.length ≤ n) (h : ∀ i, i < Q.length → π i = Q.getD i 0) {s : Nat} (hs : s < 2 ^ Q.length) : im n n π s = im n Q.length (fun i => Q.getD i 0) s := bx fun x => by
  rw [Bool.eq_iff_iff, im_bit, im_bit]
  refine and_congr Iff.rfl ⟨fun ⟨i, i1, i2, i3⟩ => ?_, fun ⟨i, i1, i2, i3⟩ => ⟨i, by omega, i2, by rw [h i i1]; exact i3⟩⟩
  have := bit_lt hs i2
  exact ⟨i, this, i2, by rw [← h i this]; exact i3⟩
theorem PreO.more (h : PreO n P used) {k : Nat} (hk : k < n) (hb : used.testBit k = false) (hl : P.length < n) : PreO n (P ++ [k]) (used ||| 2 ^ k) := by
  refine ⟨by rw [List.length_append]; simp only [List.length_cons, List.length_nil]; omega, fun i hi => ?_, ?_, or_lt h.ul (pow_lt hk), fun x => ?_⟩
  · rw [List.length_append] at hi
    simp only [List.length_cons, List.length_nil] at hi
    rcases Nat.lt_or_ge i P.length with c | c
    · rw [app_getS c]; exact h.lt i c
    · have : i = P.length := by omega
      rw [this, app_lastS]; exact hk
  · rw [List.nodup_append]
    refine ⟨h.nd, List.pairwise_singleton _ _, fun a ha b hb2 e => ?_⟩
    rw [List.mem_singleton] at hb2
    subst hb2; subst e
    rw [(h.ub _).2 ha] at hb; cases hb
  · rw [Nat.testBit_or, testBit_pow, Bool.or_eq_true, h.ub, decide_eq_true_eq, List.mem_append, List.mem_singleton]
    exact or_congr Iff.rfl ⟨fun e => e.symm, fun e => e.symm⟩
theorem goOn_end (h : PreO n P used) (hl : P.length = n) : GoOn n X Y P := by
  refine ⟨fun i => P.getD i 0, ⟨fun i hi => h.lt i (by omega), fun i j hi hj e => nodup_getD h.nd (by omega) (by omega) e⟩, fun i _ => rfl, fun s h1 h2 => ?_⟩
  rw [hl] at h1; omega
theorem goOn_step (h : PreO n P used) (hl : P.length < n) : GoOn n X Y P ↔ ∃ k, k < n ∧ used.testBit k = false ∧ (∀ s, 2 ^ P.length ≤ s → s < 2 ^ (P.length + 1) → X s = Y (im n (P.length + 1) (fun i => (P ++ [k]).getD i 0) s)) ∧ GoOn n X Y (P ++ [k]) := by
  have elen : ∀ k, (P ++ [k]).length = P.length + 1 := fun k => by rw [List.length_append]; rfl
  have hpow : 2 ^ (P.length + 1) ≤ 2 ^ n := Nat.pow_le_pow_right (by omega) (by omega)
  have h2 : 2 ^ P.length ≤ 2 ^ (P.length + 1) := Nat.pow_le_pow_right (by omega) (by omega)
  constructor
  · rintro ⟨π, p1, p2, p3⟩
    have hag : ∀ i, i < (P ++ [π P.length]).length → π i = (P ++ [π P.length]).getD i 0 := fun i hi => by
      rw [elen] at hi
      rcases Nat.lt_or_ge i P.length with c | c
      · rw [app_getS c]; exact p2 i c
      · have : i = P.length := by omega
        rw [this, app_lastS]
    refine ⟨π P.length, p1.lt _ hl, ?_, fun s s1 s2 => ?_, π, p1, hag, fun s s1 s2 => p3 s (by rw [elen] at s1; omega) s2⟩
    · cases q : used.testBit (π P.length) with
      | false => rfl
      | true =>
        obtain ⟨i, i1, i2⟩ := mem_getD.1 ((h.ub _).1 q)
        rw [← p2 i i1] at i2
        have := p1.inj i P.length (by omega) hl i2
        omega
    · have := p3 s s1 (by omega)
      rw [im_agree (k := 0) (Q := P ++ [π P.length]) (by rw [elen]; omega) hag (by rw [elen]; exact s2), elen] at this
      exact this
  · rintro ⟨k, k1, k2, k3, π, p1, p2, p3⟩
    refine ⟨π, p1, fun i hi => by rw [p2 i (by rw [elen]; omega), app_getS hi], fun s s1 s2 => ?_⟩
    rcases Nat.lt_or_ge s (2 ^ (P.length + 1)) with c | c
    · rw [im_agree (k := 0) (Q := P ++ [k]) (by rw [elen]; omega) p2 (by rw [elen]; exact c), elen]
      exact k3 s s1 c
    · exact p3 s (by rw [elen]; exact c) s2
end
theorem bitX (s i : Nat) : (iand ((s : Int) / ((2 ^ i : Nat) : Int)) 1 = 1) ↔ s.testBit i = true := by
  rw [bitS]
  cases s.testBit i <;> simp
section
variable {n : Nat} {A C : List Nat}
theorem each1_spec (hA : Mat n A) (hC : Mat n C) (l1 l3 : List Int) : ∀ (fuel : Nat) (P : List Nat) (used : Nat) (q1 : List Int) (q2 : Bool), PreO n P used → n < fuel + P.length →
    Gets (same_each_1 fuel (used : Int) (n : Int) l1 (n : Int) l3 (cs (rkL n A)) (cs (rkL n C)) (cs P) q1 q2) (fun r => r.2.1 = cs P ∧ ((r.1 = false ∧ r.2.2.2 = true ∧ GoOn n (rk n A) (rk n C) P) ∨ (r.1 = true ∧ r.2.2.1 = q1 ∧ r.2.2.2 = q2 ∧ ¬ GoOn n (rk n A) (rk n C) P)))
  | 0, P, used, q1, q2, hP, hf => absurd hP.len (by omega)
  | fuel + 1, P, used, q1, q2, hP, hf => by
    have h8 := hA.m8
    have hp8 := pow_le8 h8
    have hPl := hP.len
    rw [same_each_1.eq_2]
    simp only [cs_len]
    refine gIte (fun q => ?_) fun q => ?_
    · have e : same_Isomorphic_1 (cs P) q1 q2 = some (false, cs P, true) := by
        unfold same_Isomorphic_1
        rw [chk_pos (by rw [cs_len]; omega)]
      exact gBindE e (gSome ⟨rfl, .inl ⟨rfl, rfl, goOn_end hP (by omega)⟩⟩)
    have hl : P.length < n := by omega
    have hpow : 2 ^ (P.length + 1) ≤ 2 ^ n := Nat.pow_le_pow_right (by omega) (by omega)
    have h2p : 2 ^ (P.length + 1) = 2 * 2 ^ P.length := by rw [Nat.pow_succ]; omega
    have h0p : 0 < 2 ^ P.length := Nat.pow_pos (by omega)
    refine gBind (R := fun z => match z with | .inl c => c.1 = cs P ∧ c.2.1 = q1 ∧ c.2.2 = q2 ∧ ¬ GoOn n (rk n A) (rk n C) P | .inr r => r.2.1 = cs P ∧ r.1 = false ∧ r.2.2.2 = true ∧ GoOn n (rk n A) (rk n C) P)
      (gFor n (fun k (x : List Int × List Int × Bool × Int) => x.2.2.2 = (k : Int) ∧ x.1 = cs P ∧ x.2.1 = q1 ∧ x.2.2.1 = q2 ∧ ∀ j, j < k → ¬ (used.testBit j = false ∧ (∀ s, 2 ^ P.length ≤ s → s < 2 ^ (P.length + 1) → rk n A s = rk n C (im n (P.length + 1) (fun i => (P ++ [j]).getD i 0) s)) ∧ GoOn n (rk n A) (rk n C) (P ++ [j]))) (Nat.zero_le _) ⟨rfl, rfl, rfl, rfl, none_all⟩ ?_) ?_
    · rintro k ⟨o0, o1, o2, _⟩ hk ⟨rfl, e0, e1, e2, hI⟩
      dsimp only at e0 e1 e2 hI ⊢
      subst e0
      have e1' := e1.symm; subst e1'
      have e2' := e2.symm; subst e2'
      simp only [toNat_nat, shl_nat', cs_len]
      refine gIte (fun h1 => gChk (by omega) ?_) fun h1 => gSome ⟨rfl, rfl, rfl, fun hg => ?_⟩
      rotate_left
      · obtain ⟨j, j1, j2, j3, j4⟩ := (goOn_step hP hl).1 hg
        exact hI j (by omega) ⟨j2, j3, j4⟩
      have hk' : k < n := by omega
      refine gIte (fun h2 => gSome ⟨hk', by simp, rfl, rfl, rfl, step_all hI fun z => ?_⟩) fun h2 => ?_
      · rw [(bitX used k).1 h2] at z; cases z.1
      have hb : used.testBit k = false := bool_ne fun z => h2 ((bitX used k).2 z)
      have hP2 := hP.more hk' hb hl
      have elen : (P ++ [k]).length = P.length + 1 := by rw [List.length_append]; rfl
      have eapp : cs P ++ [(k : Int)] = cs (P ++ [k]) := cs_app _ _
      rw [eapp]
      refine gChk (by rw [cs_len]; omega) (gChk (by omega) ?_)
      refine gBind (R := fun b => b = true ↔ ∀ s, 2 ^ P.length ≤ s → s < 2 ^ (P.length + 1) → rk n A s = rk n C (im n (P.length + 1) (fun i => (P ++ [k]).getD i 0) s)) (gFor (2 ^ (P.length + 1)) (fun j (x : Bool × Int) => x.2 = (j : Int) ∧ 2 ^ P.length ≤ j ∧ (x.1 = true ↔ ∀ s, 2 ^ P.length ≤ s → s < j → rk n A s = rk n C (im n (P.length + 1) (fun i => (P ++ [k]).getD i 0) s))) (k0 := 2 ^ P.length) (by omega) ⟨rfl, Nat.le_refl _, fun _ s s1 s2 => absurd s2 (by omega), fun _ => rfl⟩ ?_) ?_
      · rintro j ⟨ok, _⟩ hj ⟨rfl, j1, j2⟩
        dsimp only at j2 ⊢
        have eshl : shlOk .i64 2 ((P.length : Nat) : Int) = true := by
          have : ∀ b : Fin 9, shlOk .i64 2 ((b.val : Nat) : Int) = true := by decide
          exact this ⟨P.length, by omega⟩
        refine gChk eshl ?_
        refine gIte (fun h3 => ?_) fun h3 => gSome ?_
        · have hj' : j < 2 ^ (P.length + 1) := by omega
          have hjn : j < 2 ^ n := by omega
          refine gChk (by rw [rkL_len]; omega) ?_
          refine gBind (moved_spec h8 (P := P ++ [k]) (by rw [elen]; omega) hP2.lt j) ?_
          rintro _ rfl
          have hil := im_lt n (P ++ [k]).length (fun i => (P ++ [k]).getD i 0) j
          simp only [toNat_nat, cs_get]
          rw [rkL_get n A hjn, rkL_get n C hil]
          refine gChk (by rw [rkL_len]; omega) (gChk (by omega) (gSome ⟨hj', by simp, by omega, ?_⟩))
          show decide _ = true ↔ _
          rw [decide_eq_true_eq, elen]
          constructor
          · intro he s s1 s2
            rcases Nat.lt_succ_iff_lt_or_eq.1 s2 with c | c
            · exact j2.1 h3.2 s s1 c
            · subst c; omega
          · intro hall
            have := hall j j1 (by omega)
            omega
        · constructor
          · intro hok s s1 s2
            have : j = 2 ^ (P.length + 1) := by
              rcases Nat.lt_or_ge j (2 ^ (P.length + 1)) with c | c
              · exact absurd ⟨by omega, hok⟩ h3
              · omega
            exact j2.1 hok s s1 (by omega)
          · intro hall
            exact j2.2 fun s s1 s2 => hall s s1 (by omega)
      · intro ok hok
        refine gChk (fun _ => by omega) ?_
        refine gIte (fun h3 => ?_) fun h3 => ?_
        · have hok' : ok = true := by simpa using h3
          have hseg := hok.1 hok'
          rw [show ior (used : Int) ((2 ^ k : Nat) : Int) = ((used ||| 2 ^ k : Nat) : Int) from or_nat _ _]
          refine gBind (each1_spec hA hC l1 l3 fuel (P ++ [k]) (used ||| 2 ^ k) q1 q2 hP2 (by rw [elen]; omega)) ?_
          rintro ⟨b, p, out, found⟩ ⟨hp, hr⟩
          dsimp only at hp hr ⊢
          subst hp
          have htake : List.take P.length (cs (P ++ [k])) = cs P := by
            rw [← eapp]
            have : (cs P).length = P.length := cs_len P
            rw [← this, List.take_append_of_le_length (Nat.le_refl _), List.take_length]
          refine gChk (by rw [cs_len, elen]; omega) ?_
          rw [htake]
          rcases hr with ⟨rfl, rfl, hg⟩ | ⟨rfl, rfl, rfl, hg⟩
          · exact gIte (fun _ => gSome ⟨rfl, rfl, rfl, (goOn_step hP hl).2 ⟨k, hk', hb, hseg, hg⟩⟩) fun q => absurd (by simp) q
          · exact gIte (fun q => absurd rfl q) fun _ => gSome ⟨hk', by simp, rfl, rfl, rfl, step_all hI fun z => hg z.2.2⟩
        · have hno : ¬ ok = true := by simpa using h3
          have htake : List.take P.length (cs (P ++ [k])) = cs P := by
            rw [← eapp]
            have : (cs P).length = P.length := cs_len P
            rw [← this, List.take_append_of_le_length (Nat.le_refl _), List.take_length]
          refine gChk (by rw [cs_len, elen]; omega) ?_
          rw [htake]
          exact gIte (fun q => absurd trivial q) fun _ => gSome ⟨hk', by simp, rfl, rfl, rfl, step_all hI fun z => hno (hok.2 z.2.1)⟩
    · rintro (⟨c0, c1, c2⟩ | r) hz
      · obtain ⟨z1, z2, z3, z4⟩ := hz
        exact gSome ⟨z1, .inr ⟨rfl, z2, z3, z4⟩⟩
      · exact gSome ⟨hz.1, .inl hz.2⟩
/-- Ranks the same, by some order. -/
def Iso (n : Nat) (X Y : Nat → Nat) : Prop := ∃ π : Nat → Nat, Pla n n π ∧ ∀ s, s < 2 ^ n → X s = Y (im n n π s)
theorem goOn_nil (hA : Mat n A) (hC : Mat n C) : GoOn n (rk n A) (rk n C) [] ↔ Iso n (rk n A) (rk n C) := by
  constructor
  · rintro ⟨π, p1, _, p3⟩
    refine ⟨π, p1, fun s hs => ?_⟩
    rcases Nat.eq_zero_or_pos s with c | c
    · subst c; rw [im_zero, hA.rk_zero, hC.rk_zero]
    · exact p3 s c hs
  · rintro ⟨π, p1, p2⟩
    exact ⟨π, p1, fun i hi => absurd hi (by simp), fun s _ hs => p2 s hs⟩
theorem Isomorphic_spec {n' : Nat} {C : List Nat} (hA : Mat n A) (hC : Mat n' C) : Gets (same_Isomorphic (n : Int) (cs A) (n' : Int) (cs C)) (fun r => (r.2 = 0 ∧ n = n' ∧ Iso n (rk n A) (rk n C)) ∨ (r.2 = 5 ∧ ¬ (n = n' ∧ A.length = C.length ∧ Iso n (rk n A) (rk n C)))) := by
  have h8 := hA.m8
  unfold same_Isomorphic
  refine gBindE hA.check (gBindE hC.check (gIte (fun q => absurd rfl q) fun _ => gIte (fun q => absurd rfl q) fun _ => ?_))
  refine gJoin (R := fun v => (v.2 = true ∧ n = n' ∧ Iso n (rk n A) (rk n C)) ∨ (v.2 = false ∧ ¬ (n = n' ∧ A.length = C.length ∧ Iso n (rk n A) (rk n C)))) ?_ fun j hj => ?_
  · rintro ⟨o, f⟩ (⟨rfl, h⟩ | ⟨rfl, h⟩)
    · exact gIte (fun q => absurd rfl q) fun _ => gSome (.inl ⟨rfl, h⟩)
    · exact gIte (fun _ => gSome (.inr ⟨rfl, h⟩)) fun q => absurd (by simp) q
  · refine gIte (fun q => ?_) fun q => hj _ (.inr ⟨rfl, fun z => q ⟨by have := z.1; omega, by rw [cs_len, cs_len]; have := z.2.1; omega⟩⟩)
    obtain rfl : n = n' := by omega
    have er : ∀ {B : List Nat}, Mat n B → same_ranks (n : Int) (cs B) = some (cs (rkL n B)) := fun hB => by unfold same_ranks; rw [axioms_Ranks_ok hB]; rfl
    refine gBind (R := fun y => (y.2 = true ∧ Iso n (rk n A) (rk n C)) ∨ (y.2 = false ∧ ¬ Iso n (rk n A) (rk n C))) ?_ ?_
    · unfold same_each
      refine gBindE (er hA) (gBindE (er hC) ?_)
      refine gBind (each1_spec hA hC (cs A) (cs C) 12 [] 0 [] false ⟨Nat.zero_le _, fun i hi => absurd hi (by simp), List.Pairwise.nil, Nat.pow_pos (by omega), fun x => by simp⟩ (by simp only [List.length_nil]; omega)) ?_
      rintro ⟨b, p, out, found⟩ ⟨_, hr⟩
      dsimp only at hr ⊢
      rcases hr with ⟨_, rfl, hg⟩ | ⟨_, _, rfl, hg⟩
      · exact gSome (.inl ⟨rfl, (goOn_nil hA hC).1 hg⟩)
      · exact gSome (.inr ⟨rfl, fun z => hg ((goOn_nil hA hC).2 z)⟩)
    · rintro ⟨o, f⟩ (⟨hf, h⟩ | ⟨hf, h⟩)
      · exact hj _ (.inl ⟨hf, rfl, h⟩)
      · exact hj _ (.inr ⟨hf, fun z => h z.2.2⟩)
end
end Go.SH
