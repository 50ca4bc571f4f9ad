/-
  Package same as it computes: sizes, moved sets, what is left of a matroid. Conditions: at most eight elements.
-/
import Derived.Test.YthofnmjokdjppaaLEm
import Derived.Test.YthofnmjokdjppaaLA
import Derived.Test.YthofnmjokdjppaaSpsame
set_option linter.unusedSimpArgs false
set_option linter.unusedVariables false
namespace Go.SH
open Go Go.AX

theorem bitS (s i : Nat) : iand ((s : Int) / ((2 ^ i : Nat) : Int)) 1 = if s.testBit i = true then 1 else 0 := by
  have := bit_nat s i
  rwa [toNat_nat, shl_nat'] at this
theorem ones_spec {s : Nat} (hs : s < 2 ^ 8) : Gets (same_ones s) (fun r => r = ((cnt 8 s : Nat) : Int)) := by
  unfold same_ones
  refine gBind (R := fun r => r = ((cnt 8 s : Nat) : Int)) (gLoop (fun (x : Int × Int) => ∃ t n : Nat, x.1 = (t : Int) ∧ x.2 = (n : Int) ∧ t < 2 ^ 8 ∧ n + cnt 8 t = cnt 8 s) (fun x => x.1.toNat) ⟨s, 0, rfl, rfl, hs, by omega⟩ ?_) fun r hr => gSome hr
  rintro ⟨_, _⟩ ⟨t, n, rfl, rfl, ht, hn⟩
  dsimp only
  have hc := cnt_le 8 s
  refine gIte (fun q => ?_) fun q => gSome (by
    have : t = 0 := by omega
    subst this
    rw [cnt_zero] at hn
    show (n : Int) = _
    omega)
  have hlow := low_spec (t := t) ht (by omega)
  generalize lo1 t = i at hlow
  have hd := cnt_dif (m := 8) ht hlow.bit
  rw [hlow.rest]
  exact gChk (by omega) (gChk (by omega) (gSome ⟨⟨dif t (2 ^ i), n + 1, rfl, by simp, dif_lt ht, by omega⟩, by simpa using hlow.less⟩))
theorem shl0 (b : Nat) (hb : b ≤ 8) : shlOk .i64 0 (b : Int) = true := by
  have : ∀ b : Fin 9, shlOk .i64 0 ((b.val : Nat) : Int) = true := by decide
  exact this ⟨b, by omega⟩
theorem shl1 (b : Nat) (hb : b ≤ 8) : shlOk .i64 1 (b : Int) = true := by
  have : ∀ b : Fin 9, shlOk .i64 1 ((b.val : Nat) : Int) = true := by decide
  exact this ⟨b, by omega⟩
/-- The loop that moves a set. -/
theorem mv_loop {n : Nat} (h8 : n ≤ 8) {P : List Nat} (hl : P.length ≤ 8) (hP : ∀ i, i < P.length → P.getD i 0 < n) (s : Nat) : Gets (loopM (ρ := Int) (fun ((v6, v7) : Int × Int) =>
  if v7 < ((cs P).length : Int) then
  chk ((0 ≤ v7 ∧ v7 < (cs P).length)) <|
  chk (0 ≤ v7 ∧ (shlOk .i64 (iand ((s : Int) / 2 ^ v7.toNat) 1) ((cs P).getD v7.toNat 0) = true)) <|
  some (.inl (ior v6 ((iand ((s : Int) / 2 ^ v7.toNat) 1) * (2 ^ ((cs P).getD v7.toNat 0).toNat : Int)), v7 + 1))
 else
  some (.inr v6)) (0, 0)) (fun r => r = ((im n P.length (fun i => P.getD i 0) s : Nat) : Int)) := by
  refine gFor P.length (fun k (x : Int × Int) => x.2 = (k : Int) ∧ ∃ a : Nat, x.1 = (a : Int) ∧ ∀ y, a.testBit y = true ↔ ∃ i, i < k ∧ s.testBit i = true ∧ P.getD i 0 = y) (Nat.zero_le _) ⟨rfl, 0, rfl, fun y => by simp⟩ ?_
  rintro k ⟨_, _⟩ hk ⟨rfl, a, rfl, ha⟩
  dsimp only
  simp only [cs_len, cs_get, toNat_nat, shl_nat', bitS]
  refine gIte (fun h1 => gChk (by omega) ?_) fun h1 => ?_
  · have hk' : k < P.length := by omega
    have hp := hP k hk'
    cases hb : s.testBit k with
    | true =>
      simp only [if_true, Int.one_mul, or_nat]
      refine gChk ⟨by omega, shl1 _ (by omega)⟩ (gSome ⟨hk', by simp, a ||| 2 ^ P.getD k 0, rfl, fun y => ?_⟩)
      rw [Nat.testBit_or, Bool.or_eq_true, ha, testBit_pow, decide_eq_true_eq]
      constructor
      · rintro (⟨i, c1, c2⟩ | c)
        · exact ⟨i, by omega, c2⟩
        · exact ⟨k, by omega, hb, c⟩
      · rintro ⟨i, c1, c2, c3⟩
        rcases Nat.lt_succ_iff_lt_or_eq.1 c1 with c | c
        · exact .inl ⟨i, c, c2, c3⟩
        · subst c; exact .inr c3
    | false =>
      have e0 : ior (a : Int) 0 = (a : Int) := by
        have := or_nat a 0
        rw [Nat.or_zero] at this; exact this
      simp only [Bool.false_eq_true, if_false, Int.zero_mul, e0]
      refine gChk ⟨by omega, shl0 _ (by omega)⟩ (gSome ⟨hk', by simp, a, rfl, fun y => ?_⟩)
      rw [ha]
      constructor
      · rintro ⟨i, c1, c2⟩; exact ⟨i, by omega, c2⟩
      · rintro ⟨i, c1, c2, c3⟩
        rcases Nat.lt_succ_iff_lt_or_eq.1 c1 with c | c
        · exact ⟨i, c, c2, c3⟩
        · subst c; rw [hb] at c2; cases c2
  · have e : k = P.length := by omega
    subst e
    refine gSome (congrArg _ (bx fun y => ?_))
    rw [Bool.eq_iff_iff, ha, im_bit]
    constructor
    · rintro ⟨i, c1, c2, c3⟩; exact ⟨by rw [← c3]; exact hP i c1, i, c1, c2, c3⟩
    · exact fun q => q.2
theorem moved_spec {n : Nat} (h8 : n ≤ 8) {P : List Nat} (hl : P.length ≤ 8) (hP : ∀ i, i < P.length → P.getD i 0 < n) (s : Nat) : Gets (same_moved (cs P) (s : Int)) (fun r => r = ((im n P.length (fun i => P.getD i 0) s : Nat) : Int)) := by
  unfold same_moved
  exact gBind (mv_loop h8 hl hP s) fun r hr => gSome hr
def atL (m left : Nat) : List Nat := (List.range m).filter fun i => left.testBit i
theorem at_mem {m left x : Nat} : x ∈ atL m left ↔ x < m ∧ left.testBit x = true := by simp [atL]
theorem at_len (m left : Nat) : (atL m left).length = cnt m left := by
  unfold atL
  induction m with
  | zero => rfl
  | succ k ih =>
    rw [List.range_succ, List.filter_append, List.length_append, ih]
    simp only [cnt]
    cases hb : left.testBit k <;> simp [hb]
theorem at_nodup (m left : Nat) : (atL m left).Nodup := List.Pairwise.filter _ List.nodup_range
theorem getD_mem {L : List Nat} {i : Nat} (h : i < L.length) : L.getD i 0 ∈ L := mem_getD.2 ⟨i, h, rfl⟩
theorem nodup_getD {L : List Nat} (h : L.Nodup) {i j : Nat} (hi : i < L.length) (hj : j < L.length) (e : L.getD i 0 = L.getD j 0) : i = j := by
  have hp := List.pairwise_iff_getElem.1 h
  have gi : L.getD i 0 = L[i] := by rw [List.getD_eq_getElem?_getD, List.getElem?_eq_getElem hi]; rfl
  have gj : L.getD j 0 = L[j] := by rw [List.getD_eq_getElem?_getD, List.getElem?_eq_getElem hj]; rfl
  rw [gi, gj] at e
  rcases Nat.lt_trichotomy i j with c | c | c
  · exact absurd e (hp i j hi hj c)
  · exact c
  · exact absurd e.symm (hp j i hj hi c)
theorem at_pla (m left : Nat) : Pla m (atL m left).length (fun i => (atL m left).getD i 0) :=
  ⟨fun i hi => (at_mem.1 (getD_mem hi)).1, fun i j hi hj e => nodup_getD (at_nodup m left) hi hj e⟩
theorem at_full {m left : Nat} (hl : left < 2 ^ m) : im m (atL m left).length (fun i => (atL m left).getD i 0) (2 ^ (atL m left).length - 1) = left := bx fun x => by
  rw [Bool.eq_iff_iff, im_bit]
  constructor
  · rintro ⟨_, i, h2, _, h4⟩
    rw [← h4]; exact (at_mem.1 (getD_mem h2)).2
  · intro hx
    obtain ⟨i, h1, h2⟩ := mem_getD.1 (at_mem.2 ⟨bit_lt hl hx, hx⟩)
    exact ⟨bit_lt hl hx, i, h1, by rw [Nat.testBit_two_pow_sub_one]; simp [h1], h2⟩
theorem fam_pwS {m : Nat} {K : List Nat} (h8 : m ≤ 8) (h1 : ∀ s, s ∈ K → s < 2 ^ m) (h2 : K.Pairwise (· < ·)) : Fam m K := ⟨h8, h1, fun i j hij hj => by
  rw [List.pairwise_iff_getElem] at h2
  have := h2 i j (by omega) hj hij
  simpa [List.getD_eq_getElem?_getD, List.getElem?_eq_getElem hj, List.getElem?_eq_getElem (show i < K.length by omega)] using this⟩
/-- What is left of a matroid. -/
theorem restricted_spec {m : Nat} {B : List Nat} (hM : Mat m B) {left c : Nat} (hl : left < 2 ^ m) (hc : c < 2 ^ m) : Gets (same_restricted (m : Int) (cs (rkL m B)) (left : Int) (c : Int)) (fun r => ∃ K : List Nat, r = (((atL m left).length : Int), cs K) ∧ Mat (atL m left).length K ∧ ∀ s, s < 2 ^ (atL m left).length → rk (atL m left).length K s + rk m B c = rk m B (im m (atL m left).length (fun i => (atL m left).getD i 0) s ||| c)) := by
  have h8 := hM.m8
  have hp8 := pow_le8 h8
  have hkl : (atL m left).length ≤ m := by rw [at_len]; exact cnt_le _ _
  have hk8 : (atL m left).length ≤ 8 := by omega
  have hq8 := pow_le8 hk8
  have hlc := or_lt hl hc
  have hpl := at_pla m left
  have hfull := at_full hl
  unfold same_restricted
  refine gBind (R := fun v => v = cs (atL m left)) (gFor m (fun k (x : List Int × Int) => x.2 = (k : Int) ∧ x.1 = cs (atL k left)) (Nat.zero_le _) ⟨rfl, rfl⟩ ?_) ?_
  · rintro k ⟨_, _⟩ hk ⟨rfl, rfl⟩
    dsimp only
    simp only [toNat_nat, shl_nat', bitS]
    refine gIte (fun h1 => gChk (by omega) ?_) fun h1 => gSome (by
      have : k = m := by omega
      rw [this])
    have hle : (atL k left).length ≤ k := by rw [at_len]; exact cnt_le _ _
    cases hb : left.testBit k with
    | true =>
      refine gIte (fun _ => gChk (by rw [List.length_append, cs_len]; simp only [List.length_cons, List.length_nil]; omega) (gSome ⟨by omega, by simp, ?_⟩)) fun q => absurd (by simp) q
      rw [cs_app]; unfold atL
      rw [List.range_succ, List.filter_append]; simp [hb]
    | false =>
      refine gIte (fun q => absurd q (by simp)) fun _ => gSome ⟨by omega, by simp, ?_⟩
      unfold atL
      rw [List.range_succ, List.filter_append]; simp [hb]
  rintro _ rfl
  simp only [cs_len, or_nat, toNat_nat, cs_get]
  rw [rkL_get m B hlc, rkL_get m B hc]
  have r1 := hM.rk_size (left ||| c)
  have r2 := hM.rk_size c
  have r3 := cnt_le m (left ||| c)
  have r4 := cnt_le m c
  have r5 := hM.rkF.mono c (left ||| c) (inc_or_r _ _)
  refine gChk ⟨by rw [rkL_len]; omega, by rw [rkL_len]; omega, by omega⟩ (gChk (by omega) ?_)
  generalize hA : atL m left = A at *
  have hR := hpl.rkF hM.rkF c
  refine gBind (R := fun v => ∃ K : List Nat, v = cs K ∧ K.Pairwise (· < ·) ∧ ∀ s, s ∈ K ↔ s < 2 ^ A.length ∧ cnt A.length s + rk m B c = rk m B (left ||| c) ∧ rk m B (im m A.length (fun i => A.getD i 0) s ||| c) = rk m B (left ||| c)) (gFor (2 ^ A.length) (fun k (x : List Int × Int) => x.2 = (k : Int) ∧ ∃ K : List Nat, x.1 = cs K ∧ K.Pairwise (· < ·) ∧ K.length ≤ k ∧ ∀ s, s ∈ K ↔ s < k ∧ cnt A.length s + rk m B c = rk m B (left ||| c) ∧ rk m B (im m A.length (fun i => A.getD i 0) s ||| c) = rk m B (left ||| c)) (Nat.zero_le _) ⟨rfl, [], rfl, List.Pairwise.nil, Nat.le_refl _, fun s => ⟨fun h => (by cases h), fun h => absurd h.1 (by omega)⟩⟩ ?_) ?_
  · rintro k ⟨_, _⟩ hk ⟨rfl, K, rfl, b1, b2, b3⟩
    dsimp only
    simp only [shl_nat']
    refine gIte (fun h1 => ?_) fun h1 => gSome ⟨K, rfl, b1, by
      have : k = 2 ^ A.length := by omega
      rw [this] at b3; exact b3⟩
    have hk' : k < 2 ^ A.length := by omega
    have hml := mv_loop h8 hk8 (P := A) (fun i hi => hpl.lt i hi) k
    simp only [cs_len, cs_get, toNat_nat, shl_nat'] at hml
    refine gBind hml ?_
    rintro _ rfl
    refine gBind (ones_spec (s := k) (by omega)) ?_
    rintro _ rfl
    have hil := im_lt m A.length (fun i => A.getD i 0) k
    have hilc := or_lt hil hc
    simp only [or_nat, toNat_nat, cs_get]
    rw [rkL_get m B hilc, cnt_of_lt hk' hk8]
    have r6 := hM.rk_size (im m A.length (fun i => A.getD i 0) k ||| c)
    have r7 := cnt_le m (im m A.length (fun i => A.getD i 0) k ||| c)
    have r8 := hM.rkF.mono c (im m A.length (fun i => A.getD i 0) k ||| c) (inc_or_r _ _)
    refine gChk ⟨fun _ => by rw [rkL_len]; omega, fun _ => by rw [rkL_len]; omega, fun _ => by omega⟩ ?_
    refine gIte (fun q => gChk (by rw [List.length_append, cs_len]; simp only [List.length_cons, List.length_nil]; omega) (gSome ⟨hk', by simp, K ++ [k], cs_app _ _, List.pairwise_append.2 ⟨b1, List.pairwise_singleton _ _, fun a ha b hb => ?_⟩, by rw [List.length_append]; simp only [List.length_cons, List.length_nil]; omega, fun s => ?_⟩)) fun q => gSome ⟨hk', by simp, K, rfl, b1, by omega, fun s => ?_⟩
    · rw [List.mem_singleton] at hb; subst hb; exact ((b3 a).1 ha).1
    · rw [List.mem_append, List.mem_singleton, b3]
      constructor
      · rintro (z | z)
        · exact ⟨by omega, z.2⟩
        · subst z; exact ⟨by omega, by omega, by omega⟩
      · intro z
        rcases Nat.lt_succ_iff_lt_or_eq.1 z.1 with y | y
        · exact .inl ⟨y, z.2⟩
        · exact .inr y
    · rw [b3]
      refine ⟨fun z => ⟨by omega, z.2⟩, fun z => ⟨?_, z.2⟩⟩
      rcases Nat.lt_succ_iff_lt_or_eq.1 z.1 with y | y
      · exact y
      · subst y
        exact absurd ⟨by omega, by omega⟩ q
  · rintro _ ⟨K, rfl, k1, k2⟩
    have hF := fam_pwS hk8 (fun s hs => ((k2 s).1 hs).1) k1
    have hub : ∀ s, rk m B c ≤ rk m B (im m A.length (fun i => A.getD i 0) s ||| c) := fun s => hM.rkF.mono _ _ (inc_or_r _ _)
    obtain ⟨hMat, hrk⟩ := hR.mat hk8 hF fun s => by
      rw [k2, hfull]
      have := hub s
      constructor
      · rintro ⟨z1, z2, z3⟩; exact ⟨z1, by omega, by omega⟩
      · rintro ⟨z1, z2, z3⟩; exact ⟨z1, by omega, by omega⟩
    exact gSome ⟨K, rfl, hMat, fun s hs => by rw [hrk s hs]; have := hub s; omega⟩
end Go.SH
