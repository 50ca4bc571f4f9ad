/-
  The law JoinPacks. Conditions: none.
-/
import Derived.Test.YtkjfccdfmjnkbaaLPk
import Derived.Test.YtkjfccdfmjnkbaaLJu
import Derived.Test.YtkjfccdfmjnkbaaEV
import Derived.Test.YtkjfccdfmjnkbaaSprotalaw
import Derived.Test.YtkjfccdfmjnkbaaSkJoinPacks
set_option linter.unusedSimpArgs false
set_option linter.unusedVariables false
namespace Go.SH
open Go Go.AX

def Disj (used : Nat) (P : List Nat) : Prop := (∀ b, b ∈ P → b &&& used = 0) ∧ P.Pairwise fun a b => a &&& b = 0
theorem and_or_zero {c u b : Nat} : c &&& (u ||| b) = 0 ↔ c &&& u = 0 ∧ c &&& b = 0 := by
  rw [disj_iff, disj_iff, disj_iff]
  constructor
  · intro h
    refine ⟨fun i hi => ?_, fun i hi => ?_⟩ <;> have := h i hi <;> rw [Nat.testBit_or] at this <;> simp at this
    · exact this.1
    · exact this.2
  · rintro ⟨h1, h2⟩ i hi
    rw [Nat.testBit_or, h1 i hi, h2 i hi]; rfl
theorem Disj_cons {used b : Nat} {P : List Nat} : Disj used (b :: P) ↔ b &&& used = 0 ∧ Disj (used ||| b) P := by
  unfold Disj
  rw [List.pairwise_cons]
  constructor
  · rintro ⟨h1, h2, h3⟩
    exact ⟨h1 b (List.mem_cons_self ..), fun c hc => and_or_zero.2 ⟨h1 c (List.mem_cons_of_mem _ hc), by rw [Nat.and_comm]; exact h2 c hc⟩, h3⟩
  · rintro ⟨h1, h2, h3⟩
    refine ⟨fun c hc => ?_, fun c hc => ?_, h3⟩
    · rcases List.mem_cons.1 hc with rfl | hc
      · exact h1
      · exact (and_or_zero.1 (h2 c hc)).1
    · rw [Nat.and_comm]; exact (and_or_zero.1 (h2 c hc)).2
theorem sub_drop {L P : List Nat} {b i : Nat} (h : (b :: P).Sublist (L.drop i)) : ∃ j, i ≤ j ∧ j < L.length ∧ L.getD j 0 = b ∧ P.Sublist (L.drop (j + 1)) := by
  obtain ⟨r1, r2, e, hb, hs⟩ := List.cons_sublist_iff.1 h
  obtain ⟨p, hp, rfl⟩ := mem_getD.1 hb
  have hl : (L.drop i).length = r1.length + r2.length := by rw [e, List.length_append]
  rw [List.length_drop] at hl
  refine ⟨i + p, by omega, by omega, ?_, ?_⟩
  · have : L.getD (i + p) 0 = (L.drop i).getD p 0 := by
      rw [List.getD_eq_getElem?_getD, List.getD_eq_getElem?_getD, List.getElem?_drop]
    rw [this, e, List.getD_eq_getElem?_getD, List.getD_eq_getElem?_getD, List.getElem?_append_left hp]
  · have e2 : L.drop (i + p + 1) = r1.drop (p + 1) ++ r2 := by
      rw [show i + p + 1 = i + (p + 1) by omega, ← List.drop_drop, e, List.drop_append_of_le_length (by omega)]
    rw [e2]
    exact hs.trans (List.sublist_append_right _ _)
theorem drop_get {L : List Nat} {i : Nat} (hi : i < L.length) : L.drop i = L.getD i 0 :: L.drop (i + 1) := by
  rw [List.drop_eq_getElem_cons hi, List.getD_eq_getElem?_getD, List.getElem?_eq_getElem hi]; rfl
theorem packed_spec {L : List Nat} (hl : L.length ≤ 256) (hb : ∀ b, b ∈ L → b < 256 ∧ b ≠ 0) : ∀ (fuel i used : Nat), i ≤ L.length → used < 256 → 9 ≤ fuel + cnt 8 used →
    Gets (join_packed fuel (cs L) i used) (fun r => ∃ P : List Nat, r = cs P ∧ P.Sublist (L.drop i) ∧ Disj used P ∧ ∀ P', P'.Sublist (L.drop i) → Disj used P' → P'.length ≤ P.length)
  | 0, i, used, _, hu, hf => by have := cnt_le 8 used; omega
  | fuel + 1, i, used, hi, hu, hf => by
    rw [join_packed.eq_2]
    refine gBind (R := fun r => ∃ P : List Nat, r = cs P ∧ P.Sublist (L.drop i) ∧ Disj used P ∧ ∀ P', P'.Sublist (L.drop i) → Disj used P' → P'.length ≤ P.length) (gFor L.length (fun k (x : List Int × Int) => x.2 = (k : Int) ∧ i ≤ k ∧ ∃ P : List Nat, x.1 = cs P ∧ P.Sublist (L.drop i) ∧ Disj used P ∧ ∀ b P' j, i ≤ j → j < k → L.getD j 0 = b → P'.Sublist (L.drop (j + 1)) → Disj used (b :: P') → P'.length + 1 ≤ P.length) hi ⟨rfl, Nat.le_refl _, [], rfl, List.nil_sublist _, ⟨fun b hb => (by cases hb), List.Pairwise.nil⟩, fun b P' j h1 h2 => absurd h2 (by omega)⟩ ?_) fun r hr => gSome hr
    rintro k ⟨_, _⟩ hk ⟨rfl, hik, P, rfl, p1, p2, p3⟩
    have hPl := p1.length_le
    rw [List.length_drop] at hPl
    simp only [cs_len, cs_get, toNat_nat]
    refine gIte (fun h1 => ?_) fun h1 => gSome ⟨P, rfl, p1, p2, fun P' q1 q2 => ?_⟩
    · have hk' : k < L.length := by omega
      have hm : L.getD k 0 ∈ L := mem_getD.2 ⟨k, hk', rfl⟩
      obtain ⟨b1, b2⟩ := hb _ hm
      generalize hbe : L.getD k 0 = b at *
      have hsuf : ∀ P' : List Nat, P'.Sublist (L.drop (k + 1)) → (b :: P').Sublist (L.drop i) := fun P' hP => by
        have e1 : (b :: P').Sublist (L.drop k) := by rw [drop_get hk', hbe]; exact hP.cons_cons b
        refine e1.trans ?_
        have : L.drop k = (L.drop i).drop (k - i) := by rw [List.drop_drop]; congr 1; omega
        rw [this]
        exact List.drop_sublist _ _
      refine gChk (by omega) ?_
      rw [and_nat]
      refine gIte (fun q => gSome ⟨hk', rfl, by omega, P, rfl, p1, p2, fun b' P' j j1 j2 j3 j4 j5 => ?_⟩) fun q => ?_
      · rcases Nat.lt_succ_iff_lt_or_eq.1 j2 with c | c
        · exact p3 b' P' j j1 c j3 j4 j5
        · subst c
          rw [hbe] at j3
          subst j3
          exact absurd (Disj_cons.1 j5).1 (by omega)
      · have hd : b &&& used = 0 := by omega
        have hcnt : cnt 8 used < cnt 8 (used ||| b) := by
          obtain ⟨e, he⟩ := exists_bit b2
          refine cnt_lt_of (inc_or_l _ _) (or_lt (n := 8) hu b1) (i := e) (by rw [Nat.testBit_or, he]; simp) ((disj_iff _ _).1 hd e he)
        rw [show (k : Int) + 1 = ((k + 1 : Nat) : Int) by omega, or_nat]
        refine gChk (by omega) (gChk (by omega) (gChk (by omega) ?_))
        refine gBind (packed_spec hl hb fuel (k + 1) (used ||| b) (by omega) (or_lt (n := 8) hu b1) (by omega)) ?_
        rintro _ ⟨P1, rfl, r1, r2, r3⟩
        have hP1 := r1.length_le
        rw [List.length_drop] at hP1
        have ecs : [(b : Int)] ++ cs P1 = cs (b :: P1) := rfl
        simp only [ecs, cs_len, List.length_cons]
        refine gChk (by omega) ?_
        have hD : Disj used (b :: P1) := Disj_cons.2 ⟨hd, r2⟩
        refine gIte (fun z => gSome ⟨hk', by simp, by omega, b :: P1, rfl, hsuf P1 r1, hD, fun b' P' j j1 j2 j3 j4 j5 => ?_⟩) fun z => gSome ⟨hk', by simp, by omega, P, rfl, p1, p2, fun b' P' j j1 j2 j3 j4 j5 => ?_⟩
        · rw [List.length_cons]
          rcases Nat.lt_succ_iff_lt_or_eq.1 j2 with c | c
          · have := p3 b' P' j j1 c j3 j4 j5
            omega
          · subst c
            rw [hbe] at j3
            subst j3
            have := r3 P' j4 (Disj_cons.1 j5).2
            omega
        · rcases Nat.lt_succ_iff_lt_or_eq.1 j2 with c | c
          · exact p3 b' P' j j1 c j3 j4 j5
          · subst c
            rw [hbe] at j3
            subst j3
            have := r3 P' j4 (Disj_cons.1 j5).2
            omega
    · cases P' with
      | nil => exact Nat.zero_le _
      | cons b P' =>
        obtain ⟨j, j1, j2, j3, j4⟩ := sub_drop q1
        exact p3 b P' j j1 (by omega) j3 j4 q2

/-! ### the weakest set -/
theorem tdiv_nat (a b : Nat) : Int.tdiv (a : Int) (b : Int) = ((a / b : Nat) : Int) := rfl
theorem Weak_ok {m : Nat} {B : List Nat} (h : Mat m B) (hR : 0 < rk m B (2 ^ m - 1)) : ∃ w : Nat, join_Weak m (cs B) = some ((w : Int), 0) ∧ w < 2 ^ m ∧ rk m B w < rk m B (2 ^ m - 1) ∧ ∀ s, s < 2 ^ m → rk m B s < rk m B (2 ^ m - 1) → cnt m (cpl m w) / (rk m B (2 ^ m - 1) - rk m B w) ≤ cnt m (cpl m s) / (rk m B (2 ^ m - 1) - rk m B s) := by
  have h8 := h.m8
  have h256 := pow_le8 h8
  have hpos : 0 < 2 ^ m := Nat.pow_pos (by omega)
  have hfl : 2 ^ m - 1 < 2 ^ m := by omega
  suffices Gets (join_Weak m (cs B)) (fun r => ∃ w : Nat, r = ((w : Int), 0) ∧ w < 2 ^ m ∧ rk m B w < rk m B (2 ^ m - 1) ∧ ∀ s, s < 2 ^ m → rk m B s < rk m B (2 ^ m - 1) → cnt m (cpl m w) / (rk m B (2 ^ m - 1) - rk m B w) ≤ cnt m (cpl m s) / (rk m B (2 ^ m - 1) - rk m B s)) by
    obtain ⟨r, e, w, rfl, hw⟩ := this
    exact ⟨w, e, hw⟩
  unfold join_Weak
  refine gBindE h.check (gIte (fun q => absurd rfl q) fun _ => ?_)
  have er : join_ranks m (cs B) = some (cs (rkL m B)) := by
    unfold join_ranks
    rw [axioms_Ranks_ok h]; rfl
  refine gBindE er ?_
  have e1 : (((2 ^ m : Nat) : Int) - 1) = ((2 ^ m - 1 : Nat) : Int) := by omega
  simp only [cs_len, rkL_len, e1, toNat_nat, cs_get, rkL_get m B hfl]
  have bR : rk m B (2 ^ m - 1) ≤ m := Nat.le_trans (h.rk_size _) (cnt_le _ _)
  generalize hRe : rk m B (2 ^ m - 1) = R at *
  refine gChk (by omega) (gChk (by omega) (gIte (fun q => by omega) fun _ => gChk (by omega) ?_))
  refine gBind (R := fun v => ∃ w : Nat, v = (w : Int) ∧ w < 2 ^ m ∧ rk m B w < R ∧ ∀ s, s < 2 ^ m → rk m B s < R → cnt m (cpl m w) / (R - rk m B w) ≤ cnt m (cpl m s) / (R - rk m B s)) (gFor (2 ^ m) (fun k (x : Int × Int × Int) => x.2.2 = (k : Int) ∧ ((k = 0 ∧ x.1 = 0 ∧ x.2.1 = (m : Int) + 1) ∨ ∃ w : Nat, x.1 = (w : Int) ∧ w < k ∧ rk m B w < R ∧ x.2.1 = ((cnt m (cpl m w) / (R - rk m B w) : Nat) : Int) ∧ ∀ s, s < k → rk m B s < R → cnt m (cpl m w) / (R - rk m B w) ≤ cnt m (cpl m s) / (R - rk m B s))) (Nat.zero_le _) ⟨rfl, .inl ⟨rfl, rfl, rfl⟩⟩ ?_) ?_
  · rintro k ⟨best, least, _⟩ hk ⟨rfl, hS⟩
    simp only at hS
    simp only [toNat_nat]
    refine gIte (fun h1 => ?_) fun h1 => ?_
    · have hk' : k < 2 ^ m := by omega
      have bk := h.rk_mono (full_inc hk')
      rw [hRe] at bk
      rw [rkL_get m B hk']
      have e2 : ((R : Int) - (rk m B k : Int)) = ((R - rk m B k : Nat) : Int) := by omega
      have e3 : iandnot ((2 ^ m - 1 : Nat) : Int) (k : Int) = ((cpl m k : Nat) : Int) := dif_nat _ _
      have hc := cpl_lt m k
      have hcm := cnt_le m (cpl m k)
      have hq : cnt m (cpl m k) / (R - rk m B k) ≤ m := Nat.le_trans (Nat.div_le_self _ _) hcm
      simp only [e2, e3]
      refine gChk ⟨by omega, by omega, by omega⟩ (gIte (fun h2 => ?_) fun h2 => gSome ⟨hk', by simp, .inr ?_⟩)
      · refine gBindE (join_size_nat (by omega)) ?_
        rw [size_of_lt hc h8]
        simp only [tdiv_nat]
        generalize hqq : cnt m (cpl m k) / (R - rk m B k) = q at *
        refine gChk (by omega) (gIte (fun h3 => gSome ⟨hk', by simp, .inr ⟨k, rfl, by omega, by omega, by rw [hqq], fun s hs hsr => ?_⟩⟩) fun h3 => gSome ⟨hk', by simp, .inr ?_⟩)
        · rcases Nat.lt_succ_iff_lt_or_eq.1 hs with c | c
          · rcases hS with ⟨z, _⟩ | ⟨w, _, w2, w3, w4, w5⟩
            · omega
            · have := w5 s c hsr
              omega
          · subst c; exact Nat.le_refl _
        · rcases hS with ⟨z, z1, z2⟩ | ⟨w, w1, w2, w3, w4, w5⟩
          · omega
          · refine ⟨w, w1, by omega, w3, w4, fun s hs hsr => ?_⟩
            rcases Nat.lt_succ_iff_lt_or_eq.1 hs with c | c
            · exact w5 s c hsr
            · subst c; omega
      · rcases hS with ⟨z, z1, z2⟩ | ⟨w, w1, w2, w3, w4, w5⟩
        · subst z
          have := h.rk_zero
          omega
        · refine ⟨w, w1, by omega, w3, w4, fun s hs hsr => ?_⟩
          rcases Nat.lt_succ_iff_lt_or_eq.1 hs with c | c
          · exact w5 s c hsr
          · subst c; omega
    · have e : k = 2 ^ m := by omega
      subst e
      rcases hS with ⟨z, _⟩ | ⟨w, w1, w2, w3, _, w5⟩
      · omega
      · exact gSome ⟨w, w1, w2, w3, w5⟩
  · rintro _ ⟨w, rfl, w1, w2, w3⟩
    exact gSome ⟨w, rfl, w1, w2, w3⟩
where
  full_inc {m s : Nat} (hs : s < 2 ^ m) : Inc s (2 ^ m - 1) := fun i hi => by rw [full_bit, decide_eq_true_eq]; exact bit_lt hs hi

/-! ### closed calls -/
def packE : Nat → List Int → Int → Int → Option (List Int)
  | 0, _, _, _ => none
  | fuel + 1, l, from0, used =>
  (loopE (ρ := List Int) (fun ((best, i) : List Int × Int) =>
  if i < (l.length : Int) then
  chk ((0 ≤ i ∧ i < l.length)) <|
  if iand (l.getD i.toNat 0) used ≠ 0 then
  some (.inl (best, i + 1))
 else
  chk ((0 ≤ i ∧ i < l.length)) <|
  chk ((-9223372036854775808 ≤ (i + 1 : Int) ∧ (i + 1 : Int) ≤ 9223372036854775807)) <|
  chk ((0 ≤ i ∧ i < l.length)) <|
  (packE fuel l (i + 1) (ior used (l.getD i.toNat 0))).bindE fun y =>
  chk ((([l.getD i.toNat 0] ++ y).length ≤ 8796093022208)) <|
  if (best.length : Int) < (([l.getD i.toNat 0] ++ y).length : Int) then
  some (.inl ([l.getD i.toNat 0] ++ y, i + 1))
 else
  some (.inl (best, i + 1))
 else
  some (.inr best)) ([], from0)).bindE fun (best1 : List Int) =>
  some best1
theorem E_packed : ∀ (fuel : Nat) (l : List Int) (i u : Int), Le (packE fuel l i u) (join_packed fuel l i u)
  | 0, _, _, _ => fun r hr => by cases hr
  | fuel + 1, l, i, u => by
    rw [join_packed.eq_2, packE.eq_2]
    have ih := E_packed fuel l
    repeat' (first
      | assumption
      | with_reducible exact le_rfl _
      | exact ih _ _
      | exact le_rfl _
      | apply le_bind
      | apply le_chk
      | apply le_ite
      | apply le_join
      | apply le_loop
      | dsimp only
      | (intro (x : _ × _); obtain ⟨_, _⟩ := x)
      | intro _)
theorem pack_two : join_Pack 4 (cs twoB) = some ([3, 12], 0) := by
  unfold join_Pack
  have e : join_packed 12 (cs twoB) 0 0 = some [3, 12] := E_packed 12 (cs twoB) 0 0 _ (by kernel_rfl)
  rw [show ((4 : Int)) = ((4 : Nat) : Int) from rfl, mat_two.check, Option.bind_some, if_neg (by simp), chk_pos (by decide), if_neg (by decide), e]
  rfl
end Go.SH
