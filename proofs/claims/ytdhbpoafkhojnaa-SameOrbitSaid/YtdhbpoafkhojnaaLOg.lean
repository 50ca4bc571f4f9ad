/-
  All orders that make one matroid another one, gone through: counted, the first one kept, where elements go. Conditions: at most eight elements.
-/
import Derived.Test.YtdhbpoafkhojnaaLOa
import Derived.Test.YtdhbpoafkhojnaaSpsameg
set_option linter.unusedSimpArgs false
set_option linter.unusedVariables false
namespace Go.SH
open Go Go.AX

/-- An order that begins so, and makes ranks the same from there on. -/
def Goo (n : Nat) (X Y : Nat → Nat) (P Q : List Nat) : Prop := Q ∈ ords n ∧ (∀ i, i < P.length → pf Q i = pf P i) ∧ ∀ s, 2 ^ P.length ≤ s → s < 2 ^ n → X s = Y (im n n (pf Q) s)
/-- With one element more it goes on so. -/
def Seg (n : Nat) (X Y : Nat → Nat) (P : List Nat) (k : Nat) : Prop := ∀ s, 2 ^ P.length ≤ s → s < 2 ^ (P.length + 1) → X s = Y (im n (P.length + 1) (fun i => (P ++ [k]).getD i 0) s)
section
variable {n : Nat} {X Y : Nat → Nat} {P Q : List Nat} {used : Nat}
theorem app_lenS (P : List Nat) (k : Nat) : (P ++ [k]).length = P.length + 1 := by rw [List.length_append]; rfl
theorem goo_end (h : PreO n P used) (hl : P.length = n) : Goo n X Y P Q ↔ Q = P := by
  have hP : P ∈ ords n := mem_ext.2 ⟨hl, h.nd, fun k hk => by
    obtain ⟨i, i1, rfl⟩ := mem_getD.1 hk
    exact h.lt i i1⟩
  constructor
  · rintro ⟨h1, h2, _⟩
    exact ords_ext h1 hP fun i hi => h2 i (by omega)
  · rintro rfl
    exact ⟨hP, fun _ _ => rfl, fun s s1 s2 => absurd s2 (by rw [hl] at s1; omega)⟩
theorem goo_step (h : PreO n P used) (hl : P.length < n) {k : Nat} (hk : k < n) : (Goo n X Y P Q ∧ pf Q P.length = k) ↔ used.testBit k = false ∧ Seg n X Y P k ∧ Goo n X Y (P ++ [k]) Q := by
  have hpow : 2 ^ (P.length + 1) ≤ 2 ^ n := Nat.pow_le_pow_right (by omega) (by omega)
  have h2 : 2 ^ P.length ≤ 2 ^ (P.length + 1) := Nat.pow_le_pow_right (by omega) (by omega)
  constructor
  · rintro ⟨⟨q1, q2, q3⟩, rfl⟩
    have hp := ords_pla q1
    have hag : ∀ i, i < (P ++ [pf Q P.length]).length → pf Q i = (P ++ [pf Q P.length]).getD i 0 := fun i hi => by
      rw [app_lenS] at hi
      rcases Nat.lt_or_ge i P.length with c | c
      · rw [app_getS c]; exact q2 i c
      · have : i = P.length := by omega
        rw [this, app_lastS]
    refine ⟨?_, fun s s1 s2 => ?_, q1, hag, fun s s1 s2 => q3 s (by rw [app_lenS] at s1; omega) s2⟩
    · cases q : used.testBit (pf Q P.length) with
      | false => rfl
      | true =>
        obtain ⟨i, i1, i2⟩ := mem_getD.1 ((h.ub _).1 q)
        have e := q2 i i1
        have := hp.inj i P.length (by omega) hl (by rw [e]; exact i2)
        omega
    · have := q3 s s1 (by omega)
      rw [im_agree (k := 0) (Q := P ++ [pf Q P.length]) (by rw [app_lenS]; omega) hag (by rw [app_lenS]; exact s2), app_lenS] at this
      exact this
  · rintro ⟨_, k3, q1, q2, q3⟩
    refine ⟨⟨q1, fun i hi => by rw [q2 i (by rw [app_lenS]; omega)]; exact app_getS hi, fun s s1 s2 => ?_⟩, by rw [q2 _ (by rw [app_lenS]; omega)]; exact app_lastS⟩
    rcases Nat.lt_or_ge s (2 ^ (P.length + 1)) with c | c
    · rw [im_agree (k := 0) (Q := P ++ [k]) (by rw [app_lenS]; omega) q2 (by rw [app_lenS]; exact c), app_lenS]
      exact k3 s s1 c
    · exact q3 s (by rw [app_lenS]; exact c) s2
theorem goo_nil (hX : X 0 = Y 0) : Goo n X Y [] Q ↔ Q ∈ ords n ∧ ∀ s, s < 2 ^ n → X s = Y (im n n (pf Q) s) := by
  constructor
  · rintro ⟨h1, _, h3⟩
    refine ⟨h1, fun s hs => ?_⟩
    rcases Nat.eq_zero_or_pos s with c | c
    · subst c; rw [im_zero, hX]
    · exact h3 s c hs
  · rintro ⟨h1, h2⟩
    exact ⟨h1, fun i hi => absurd hi (by simp), fun s _ hs => h2 s hs⟩
end
section
variable {n : Nat} {A C : List Nat}
theorem shl2 {b : Nat} (h : b ≤ 8) : shlOk .i64 2 ((b : Nat) : Int) = true := by
  have : ∀ b : Fin 9, shlOk .i64 2 ((b.val : Nat) : Int) = true := by decide
  exact this ⟨b, by omega⟩
/-- The loop that looks at the sets with the new element. -/
theorem ok_loop (hA : Mat n A) (hC : Mat n C) {P : List Nat} {used k : Nat} (hP : PreO n P used) (hl : P.length < n) (hk' : k < n) (hb : used.testBit k = false) : Gets (loopM (ρ := Bool) (fun ((v1, v2) : Bool × Int) =>
  chk ((shlOk .i64 2 ((P.length : Nat) : Int) = true)) <|
  if (v2 < 2 * ((2 ^ P.length : Nat) : Int) ∧ v1 = true) then
  chk ((0 ≤ v2 ∧ v2 < ((cs (rkL n A)).length : Int))) <|
  (same_moved (cs (P ++ [k])) v2).bind fun y1 =>
  chk ((0 ≤ y1 ∧ y1 < ((cs (rkL n C)).length : Int))) <|
  chk ((-9223372036854775808 ≤ (v2 + 1 : Int) ∧ (v2 + 1 : Int) ≤ 9223372036854775807)) <|
  some (.inl (decide ((cs (rkL n A)).getD v2.toNat 0 = (cs (rkL n C)).getD y1.toNat 0), v2 + 1))
 else
  some (.inr v1)) (true, ((2 ^ P.length : Nat) : Int))) (fun b => b = true ↔ Seg n (rk n A) (rk n C) P k) := by
  have h8 := hA.m8
  have hp8 := pow_le8 h8
  have hpow : 2 ^ (P.length + 1) ≤ 2 ^ n := Nat.pow_le_pow_right (by omega) (by omega)
  have h2p : 2 ^ (P.length + 1) = 2 * 2 ^ P.length := by rw [Nat.pow_succ]; omega
  have h0p : 0 < 2 ^ P.length := Nat.pow_pos (by omega)
  have hP2 := hP.more hk' hb hl
  have elen := app_lenS P k
  refine gFor (2 ^ (P.length + 1)) (fun j (x : Bool × Int) => x.2 = (j : Int) ∧ 2 ^ P.length ≤ j ∧ (x.1 = true ↔ ∀ s, 2 ^ P.length ≤ s → s < j → rk n A s = rk n C (im n (P.length + 1) (fun i => (P ++ [k]).getD i 0) s))) (k0 := 2 ^ P.length) (by omega) ⟨rfl, Nat.le_refl _, fun _ s s1 s2 => absurd s2 (by omega), fun _ => rfl⟩ ?_
  rintro j ⟨ok, _⟩ hj ⟨rfl, j1, j2⟩
  dsimp only at j2 ⊢
  refine gChk (shl2 (by omega)) ?_
  refine gIte (fun h3 => ?_) fun h3 => gSome ?_
  · have hj' : j < 2 ^ (P.length + 1) := by omega
    have hjn : j < 2 ^ n := by omega
    simp only [cs_len]
    refine gChk (by rw [rkL_len]; omega) ?_
    refine gBind (moved_spec h8 (P := P ++ [k]) (by rw [elen]; omega) hP2.lt j) ?_
    rintro _ rfl
    have hil := im_lt n (P ++ [k]).length (fun i => (P ++ [k]).getD i 0) j
    simp only [toNat_nat, cs_get]
    rw [rkL_get n A hjn, rkL_get n C hil]
    refine gChk (by rw [rkL_len]; omega) (gChk (by omega) (gSome ⟨hj', by simp, by omega, ?_⟩))
    show decide _ = true ↔ _
    rw [decide_eq_true_eq, elen]
    constructor
    · intro he s s1 s2
      rcases Nat.lt_succ_iff_lt_or_eq.1 s2 with c | c
      · exact j2.1 h3.2 s s1 c
      · subst c; omega
    · intro hall
      have := hall j j1 (by omega)
      omega
  · show ok = true ↔ Seg n (rk n A) (rk n C) P k
    constructor
    · intro hok s s1 s2
      have : j = 2 ^ (P.length + 1) := by
        rcases Nat.lt_or_ge j (2 ^ (P.length + 1)) with c | c
        · exact absurd ⟨by omega, hok⟩ h3
        · omega
      exact j2.1 hok s s1 (by omega)
    · intro hall
      exact j2.2 fun s s1 s2 => hall s s1 (by omega)
theorem take_app {P : List Nat} (k : Nat) : List.take P.length (cs (P ++ [k])) = cs P := by
  rw [← cs_app]
  have : (cs P).length = P.length := cs_len P
  rw [← this, List.take_append_of_le_length (Nat.le_refl _), List.take_length]
theorem fact8 : ∀ k, k ≤ 8 → fact k ≤ 40320 := fun k hk => by
  have : ∀ k : Fin 9, fact k.val ≤ 40320 := by decide
  exact this ⟨k, by omega⟩
/-- Counted. -/
theorem each1_cnt (hA : Mat n A) (hC : Mat n C) (l1 l3 : List Int) : ∀ (fuel : Nat) (P : List Nat) (used : Nat) (q : Nat), PreO n P used → n < fuel + P.length → q + cntP (ords n) (fun Q => Goo n (rk n A) (rk n C) P Q) ≤ 100000 →
    Gets (same_each_1_v2 fuel (used : Int) (n : Int) l1 (n : Int) l3 (cs (rkL n A)) (cs (rkL n C)) (cs P) (q : Int)) (fun r => r.1 = true ∧ r.2.1 = cs P ∧ r.2.2 = ((q + cntP (ords n) (fun Q => Goo n (rk n A) (rk n C) P Q) : Nat) : Int))
  | 0, P, used, q, hP, hf, _ => absurd hP.len (by omega)
  | fuel + 1, P, used, q, hP, hf, hq => by
    have h8 := hA.m8
    have hp8 := pow_le8 h8
    have hPl := hP.len
    rw [same_each_1_v2.eq_2]
    simp only [cs_len]
    refine gIte (fun e => ?_) fun e => ?_
    · have hl : P.length = n := by omega
      have hPo : P ∈ ords n := ((goo_end (X := rk n A) (Y := rk n C) hP hl).2 rfl).1
      have h1 : cntP (ords n) (fun Q => Goo n (rk n A) (rk n C) P Q) = 1 := cntP_one (ext_nodup n n) hPo fun Q _ => goo_end hP hl
      rw [h1] at hq ⊢
      have e : same_Group_1 (cs P) (q : Int) = some (true, (q : Int) + 1) := by
        unfold same_Group_1
        rw [chk_pos (by omega)]
      exact gBindE e (gSome ⟨rfl, rfl, by simp⟩)
    have hl : P.length < n := by omega
    have hpow : 2 ^ (P.length + 1) ≤ 2 ^ n := Nat.pow_le_pow_right (by omega) (by omega)
    have h0p : 0 < 2 ^ P.length := Nat.pow_pos (by omega)
    have hsp : ∀ k, cntP (ords n) (fun Q => Goo n (rk n A) (rk n C) P Q ∧ pf Q P.length < k + 1) = cntP (ords n) (fun Q => Goo n (rk n A) (rk n C) P Q ∧ pf Q P.length < k) + cntP (ords n) (fun Q => Goo n (rk n A) (rk n C) P Q ∧ pf Q P.length = k) := fun k => cntP_split (fun Q _ => by
      constructor
      · rintro ⟨z1, z2⟩
        rcases Nat.lt_succ_iff_lt_or_eq.1 z2 with c | c
        · exact .inl ⟨z1, c⟩
        · exact .inr ⟨z1, c⟩
      · rintro (⟨z1, z2⟩ | ⟨z1, z2⟩) <;> exact ⟨z1, by omega⟩) fun Q _ z1 z2 => by have := z1.2; have := z2.2; omega
    have hall : cntP (ords n) (fun Q => Goo n (rk n A) (rk n C) P Q ∧ pf Q P.length < n) = cntP (ords n) (fun Q => Goo n (rk n A) (rk n C) P Q) := cntP_congr fun Q hQ => ⟨fun z => z.1, fun z => ⟨z, (ords_pla hQ).lt _ hl⟩⟩
    have hmono : ∀ k, cntP (ords n) (fun Q => Goo n (rk n A) (rk n C) P Q ∧ pf Q P.length < k) ≤ cntP (ords n) (fun Q => Goo n (rk n A) (rk n C) P Q) := fun k => cntP_inj (ext_nodup n n) id (fun a ha z => ⟨ha, z.1⟩) fun _ _ _ _ z => z
    have hz : ∀ k, k < n → ¬ (used.testBit k = false ∧ Seg n (rk n A) (rk n C) P k) → cntP (ords n) (fun Q => Goo n (rk n A) (rk n C) P Q ∧ pf Q P.length = k) = 0 := fun k hk hno => cntP_none fun Q _ z => by
      have := (goo_step hP hl hk).1 z
      exact hno ⟨this.1, this.2.1⟩
    have h1s : ∀ k, k < n → used.testBit k = false → Seg n (rk n A) (rk n C) P k → cntP (ords n) (fun Q => Goo n (rk n A) (rk n C) P Q ∧ pf Q P.length = k) = cntP (ords n) (fun Q => Goo n (rk n A) (rk n C) (P ++ [k]) Q) := fun k hk y1 y2 => cntP_congr fun Q _ => ⟨fun z => ((goo_step hP hl hk).1 z).2.2, fun z => (goo_step hP hl hk).2 ⟨y1, y2, z⟩⟩
    refine gBind (R := fun z => match z with | .inl c => c.1 = cs P ∧ c.2 = ((q + cntP (ords n) (fun Q => Goo n (rk n A) (rk n C) P Q) : Nat) : Int) | .inr r => False)
      (gFor n (fun k (x : List Int × Int × Int) => x.2.2 = (k : Int) ∧ x.1 = cs P ∧ x.2.1 = ((q + cntP (ords n) (fun Q => Goo n (rk n A) (rk n C) P Q ∧ pf Q P.length < k) : Nat) : Int)) (Nat.zero_le _) ⟨rfl, rfl, by rw [cntP_none fun Q _ z => absurd z.2 (by omega)]; simp⟩ ?_) ?_
    · rintro k ⟨_, _, _⟩ hk ⟨rfl, rfl, rfl⟩
      dsimp only
      simp only [toNat_nat, shl_nat', cs_len]
      refine gIte (fun h1 => gChk (by omega) ?_) fun h1 => gSome ⟨rfl, ?_⟩
      rotate_left
      · obtain rfl : k = n := by omega
        rw [hall]
      have hk' : k < n := by omega
      have hnext : ∀ c, cntP (ords n) (fun Q => Goo n (rk n A) (rk n C) P Q ∧ pf Q P.length = k) = c → cntP (ords n) (fun Q => Goo n (rk n A) (rk n C) P Q ∧ pf Q P.length < k + 1) = cntP (ords n) (fun Q => Goo n (rk n A) (rk n C) P Q ∧ pf Q P.length < k) + c := fun c hc => by rw [hsp k, hc]
      refine gIte (fun h2 => gSome ⟨hk', by simp, rfl, ?_⟩) fun h2 => ?_
      · have := hnext 0 (hz k hk' fun z => by rw [(bitX used k).1 h2] at z; cases z.1)
        dsimp only
        rw [this]; rfl
      have hb : used.testBit k = false := bool_ne fun z => h2 ((bitX used k).2 z)
      have hP2 := hP.more hk' hb hl
      have elen := app_lenS P k
      have eapp : cs P ++ [(k : Int)] = cs (P ++ [k]) := cs_app _ _
      rw [eapp]
      refine gChk (by rw [cs_len]; omega) (gChk (by omega) ?_)
      have hok := ok_loop hA hC hP hl hk' hb
      simp only [cs_len] at hok
      refine gBind hok ?_
      intro ok hok
      refine gChk (fun _ => by omega) ?_
      refine gIte (fun h3 => ?_) fun h3 => ?_
      · have hok' : ok = true := by simpa using h3
        have hseg := hok.1 hok'
        have e1 := h1s k hk' hb hseg
        have e2 := hnext _ e1
        have e3 := hmono (k + 1)
        rw [show ior (used : Int) ((2 ^ k : Nat) : Int) = ((used ||| 2 ^ k : Nat) : Int) from or_nat _ _]
        refine gBind (each1_cnt hA hC l1 l3 fuel (P ++ [k]) (used ||| 2 ^ k) _ hP2 (by rw [elen]; omega) (by omega)) ?_
        rintro ⟨b, p, c⟩ ⟨rfl, rfl, rfl⟩
        dsimp only
        refine gChk (by rw [cs_len, elen]; omega) ?_
        rw [take_app]
        refine gIte (fun z => absurd rfl z) fun _ => gSome ⟨hk', by simp, rfl, ?_⟩
        dsimp only
        rw [e2]
        omega
      · have hno : ¬ ok = true := by simpa using h3
        refine gChk (by rw [cs_len, elen]; omega) ?_
        rw [take_app]
        refine gIte (fun z => absurd trivial z) fun _ => gSome ⟨hk', by simp, rfl, ?_⟩
        have := hnext 0 (hz k hk' fun z => hno (hok.2 z.2))
        dsimp only
        rw [this]; rfl
    · rintro (⟨c0, c1⟩ | r) hz
      · obtain ⟨rfl, rfl⟩ := hz
        exact gSome ⟨rfl, rfl, rfl⟩
      · exact absurd hz id
theorem ranks_ok {B : List Nat} (hB : Mat n B) : same_ranks (n : Int) (cs B) = some (cs (rkL n B)) := by unfold same_ranks; rw [axioms_Ranks_ok hB]; rfl
theorem pre0 : PreO n [] 0 := ⟨Nat.zero_le _, fun i hi => absurd hi (by simp), List.Pairwise.nil, Nat.pow_pos (by omega), fun x => by simp⟩
/-- The group's number. -/
theorem Group_spec (hA : Mat n A) : same_Group (n : Int) (cs A) = some (((aut n A : Nat) : Int), 0) := by
  refine Gets.eq ?_
  have h8 := hA.m8
  have e : cntP (ords n) (fun Q => Goo n (rk n A) (rk n A) [] Q) = aut n A := cntP_congr fun Q hQ => by
    rw [goo_nil rfl, tr_iff hA hA hQ]
    exact ⟨fun z => z.2, fun z => ⟨hQ, z⟩⟩
  have hle : aut n A ≤ 40320 := Nat.le_trans cntP_le (by rw [ext_all]; exact fact8 n h8)
  unfold same_Group
  refine gBindE hA.check (gIte (fun z => absurd rfl z) fun _ => ?_)
  refine gBind (R := fun y => y = ((aut n A : Nat) : Int)) ?_ fun y hy => gSome (by rw [hy])
  unfold same_each_v2
  refine gBindE (ranks_ok hA) (gBindE (ranks_ok hA) ?_)
  have := each1_cnt hA hA (cs A) (cs A) 12 [] 0 0 pre0 (by simp only [List.length_nil]; omega) (by rw [e]; omega)
  refine gBind this ?_
  rintro ⟨b, p, c⟩ ⟨rfl, rfl, rfl⟩
  refine gSome ?_
  dsimp only
  rw [e, Nat.zero_add]
end
end Go.SH
