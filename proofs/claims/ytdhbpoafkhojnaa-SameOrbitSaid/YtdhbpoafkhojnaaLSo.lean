/-
  Package same as it computes: sizes, moved sets, what is left of a matroid. Orders that make one matroid another one, as they are sought. Minors as they are sought, and chains of them.  Conditions: none.
-/
import Derived.Test.YtdhbpoafkhojnaaLEm
import Derived.Test.YtdhbpoafkhojnaaLA
import Derived.Test.YtdhbpoafkhojnaaSpsame

set_option linter.unusedSimpArgs false
set_option linter.unusedVariables false
namespace Go.SH
open Go Go.AX

theorem bitS (s i : Nat) : iand ((s : Int) / ((2 ^ i : Nat) : Int)) 1 = if s.testBit i = true then 1 else 0 := by
  have := bit_nat s i
  rwa [toNat_nat, shl_nat'] at this
theorem ones_spec {s : Nat} (hs : s < 2 ^ 8) : Gets (same_ones s) (fun r => r = ((cnt 8 s : Nat) : Int)) := by
  unfold same_ones
  refine gBind (R := fun r => r = ((cnt 8 s : Nat) : Int)) (gLoop (fun (x : Int × Int) => ∃ t n : Nat, x.1 = (t : Int) ∧ x.2 = (n : Int) ∧ t < 2 ^ 8 ∧ n + cnt 8 t = cnt 8 s) (fun x => x.1.toNat) ⟨s, 0, rfl, rfl, hs, by omega⟩ ?_) fun r hr => gSome hr
  rintro ⟨_, _⟩ ⟨t, n, rfl, rfl, ht, hn⟩
  dsimp only
  have hc := cnt_le 8 s
  refine gIte (fun q => ?_) fun q => gSome (by
    have : t = 0 := by omega
    subst this
    rw [cnt_zero] at hn
    show (n : Int) = _
    omega)
  have hlow := low_spec (t := t) ht (by omega)
  generalize lo1 t = i at hlow
  have hd := cnt_dif (m := 8) ht hlow.bit
  rw [hlow.rest]
  exact gChk (by omega) (gChk (by omega) (gSome ⟨⟨dif t (2 ^ i), n + 1, rfl, by simp, dif_lt ht, by omega⟩, by simpa using hlow.less⟩))
theorem shl0 (b : Nat) (hb : b ≤ 8) : shlOk .i64 0 (b : Int) = true := by
  have : ∀ b : Fin 9, shlOk .i64 0 ((b.val : Nat) : Int) = true := by decide
  exact this ⟨b, by omega⟩
theorem shl1 (b : Nat) (hb : b ≤ 8) : shlOk .i64 1 (b : Int) = true := by
  have : ∀ b : Fin 9, shlOk .i64 1 ((b.val : Nat) : Int) = true := by decide
  exact this ⟨b, by omega⟩
/-- The loop that moves a set. -/
theorem mv_loop {n : Nat} (h8 : n ≤ 8) {P : List Nat} (hl : P.length ≤ 8) (hP : ∀ i, i < P.length → P.getD i 0 < n) (s : Nat) : Gets (loopM (ρ := Int) (fun ((v6, v7) : Int × Int) =>
  if v7 < ((cs P).length : Int) then
  chk ((0 ≤ v7 ∧ v7 < (cs P).length)) <|
  chk (0 ≤ v7 ∧ (shlOk .i64 (iand ((s : Int) / 2 ^ v7.toNat) 1) ((cs P).getD v7.toNat 0) = true)) <|
  some (.inl (ior v6 ((iand ((s : Int) / 2 ^ v7.toNat) 1) * (2 ^ ((cs P).getD v7.toNat 0).toNat : Int)), v7 + 1))
 else
  some (.inr v6)) (0, 0)) (fun r => r = ((im n P.length (fun i => P.getD i 0) s : Nat) : Int)) := by
  refine gFor P.length (fun k (x : Int × Int) => x.2 = (k : Int) ∧ ∃ a : Nat, x.1 = (a : Int) ∧ ∀ y, a.testBit y = true ↔ ∃ i, i < k ∧ s.testBit i = true ∧ P.getD i 0 = y) (Nat.zero_le _) ⟨rfl, 0, rfl, fun y => by simp⟩ ?_
  rintro k ⟨_, _⟩ hk ⟨rfl, a, rfl, ha⟩
  dsimp only
  simp only [cs_len, cs_get, toNat_nat, shl_nat', bitS]
  refine gIte (fun h1 => gChk (by omega) ?_) fun h1 => ?_
  · have hk' : k < P.length := by omega
    have hp := hP k hk'
    cases hb : s.testBit k with
    | true =>
      simp only [if_true, Int.one_mul, or_nat]
      refine gChk ⟨by omega, shl1 _ (by omega)⟩ (gSome ⟨hk', by simp, a ||| 2 ^ P.getD k 0, rfl, fun y => ?_⟩)
      rw [Nat.testBit_or, Bool.or_eq_true, ha, testBit_pow, decide_eq_true_eq]
      constructor
      · rintro (⟨i, c1, c2⟩ | c)
        · exact ⟨i, by omega, c2⟩
        · exact ⟨k, by omega, hb, c⟩
      · rintro ⟨i, c1, c2, c3⟩
        rcases Nat.lt_succ_iff_lt_or_eq.1 c1 with c | c
        · exact .inl ⟨i, c, c2, c3⟩
        · subst c; exact .inr c3
    | false =>
      have e0 : ior (a : Int) 0 = (a : Int) := by
        have := or_nat a 0
        rw [Nat.or_zero] at this; exact this
      simp only [Bool.false_eq_true, if_false, Int.zero_mul, e0]
      refine gChk ⟨by omega, shl0 _ (by omega)⟩ (gSome ⟨hk', by simp, a, rfl, fun y => ?_⟩)
      rw [ha]
      constructor
      · rintro ⟨i, c1, c2⟩; exact ⟨i, by omega, c2⟩
      · rintro ⟨i, c1, c2, c3⟩
        rcases Nat.lt_succ_iff_lt_or_eq.1 c1 with c | c
        · exact ⟨i, c, c2, c3⟩
        · subst c; rw [hb] at c2; cases c2
  · have e : k = P.length := by omega
    subst e
    refine gSome (congrArg _ (bx fun y => ?_))
    rw [Bool.eq_iff_iff, ha, im_bit]
    constructor
    · rintro ⟨i, c1, c2, c3⟩; exact ⟨by rw [← c3]; exact hP i c1, i, c1, c2, c3⟩
    · exact fun q => q.2
theorem moved_spec {n : Nat} (h8 : n ≤ 8) {P : List Nat} (hl : P.length ≤ 8) (hP : ∀ i, i < P.length → P.getD i 0 < n) (s : Nat) : Gets (same_moved (cs P) (s : Int)) (fun r => r = ((im n P.length (fun i => P.getD i 0) s : Nat) : Int)) := by
  unfold same_moved
  exact gBind (mv_loop h8 hl hP s) fun r hr => gSome hr
def atL (m left : Nat) : List Nat := (List.range m).filter fun i => left.testBit i
theorem at_mem {m left x : Nat} : x ∈ atL m left ↔ x < m ∧ left.testBit x = true := by simp [atL]
theorem at_len (m left : Nat) : (atL m left).length = cnt m left := by
  unfold atL
  induction m with
  | zero => rfl
  | succ k ih =>
    rw [List.range_succ, List.filter_append, List.length_append, ih]
    simp only [cnt]
    cases hb : left.testBit k <;> simp [hb]
theorem at_nodup (m left : Nat) : (atL m left).Nodup := List.Pairwise.filter _ List.nodup_range
theorem getD_mem {L : List Nat} {i : Nat} (h : i < L.length) : L.getD i 0 ∈ L := mem_getD.2 ⟨i, h, rfl⟩
theorem nodup_getD {L : List Nat} (h : L.Nodup) {i j : Nat} (hi : i < L.length) (hj : j < L.length) (e : L.getD i 0 = L.getD j 0) : i = j := by
  have hp := List.pairwise_iff_getElem.1 h
  have gi : L.getD i 0 = L[i] := by rw [List.getD_eq_getElem?_getD, List.getElem?_eq_getElem hi]; rfl
  have gj : L.getD j 0 = L[j] := by rw [List.getD_eq_getElem?_getD, List.getElem?_eq_getElem hj]; rfl
  rw [gi, gj] at e
  rcases Nat.lt_trichotomy i j with c | c | c
  · exact absurd e (hp i j hi hj c)
  · exact c
  · exact absurd e.symm (hp j i hj hi c)
theorem at_pla (m left : Nat) : Pla m (atL m left).length (fun i => (atL m left).getD i 0) :=
  ⟨fun i hi => (at_mem.1 (getD_mem hi)).1, fun i j hi hj e => nodup_getD (at_nodup m left) hi hj e⟩
theorem at_full {m left : Nat} (hl : left < 2 ^ m) : im m (atL m left).length (fun i => (atL m left).getD i 0) (2 ^ (atL m left).length - 1) = left := bx fun x => by
  rw [Bool.eq_iff_iff, im_bit]
  constructor
  · rintro ⟨_, i, h2, _, h4⟩
    rw [← h4]; exact (at_mem.1 (getD_mem h2)).2
  · intro hx
    obtain ⟨i, h1, h2⟩ := mem_getD.1 (at_mem.2 ⟨bit_lt hl hx, hx⟩)
    exact ⟨bit_lt hl hx, i, h1, by rw [Nat.testBit_two_pow_sub_one]; simp [h1], h2⟩
theorem fam_pwS {m : Nat} {K : List Nat} (h8 : m ≤ 8) (h1 : ∀ s, s ∈ K → s < 2 ^ m) (h2 : K.Pairwise (· < ·)) : Fam m K := ⟨h8, h1, fun i j hij hj => by
  rw [List.pairwise_iff_getElem] at h2
  have := h2 i j (by omega) hj hij
  simpa [List.getD_eq_getElem?_getD, List.getElem?_eq_getElem hj, List.getElem?_eq_getElem (show i < K.length by omega)] using this⟩
/-- What is left of a matroid. -/
theorem restricted_spec {m : Nat} {B : List Nat} (hM : Mat m B) {left c : Nat} (hl : left < 2 ^ m) (hc : c < 2 ^ m) : Gets (same_restricted (m : Int) (cs (rkL m B)) (left : Int) (c : Int)) (fun r => ∃ K : List Nat, r = (((atL m left).length : Int), cs K) ∧ Mat (atL m left).length K ∧ ∀ s, s < 2 ^ (atL m left).length → rk (atL m left).length K s + rk m B c = rk m B (im m (atL m left).length (fun i => (atL m left).getD i 0) s ||| c)) := by
  have h8 := hM.m8
  have hp8 := pow_le8 h8
  have hkl : (atL m left).length ≤ m := by rw [at_len]; exact cnt_le _ _
  have hk8 : (atL m left).length ≤ 8 := by omega
  have hq8 := pow_le8 hk8
  have hlc := or_lt hl hc
  have hpl := at_pla m left
  have hfull := at_full hl
  unfold same_restricted
  refine gBind (R := fun v => v = cs (atL m left)) (gFor m (fun k (x : List Int × Int) => x.2 = (k : Int) ∧ x.1 = cs (atL k left)) (Nat.zero_le _) ⟨rfl, rfl⟩ ?_) ?_
  · rintro k ⟨_, _⟩ hk ⟨rfl, rfl⟩
    dsimp only
    simp only [toNat_nat, shl_nat', bitS]
    refine gIte (fun h1 => gChk (by omega) ?_) fun h1 => gSome (by
      have : k = m := by omega
      rw [this])
    have hle : (atL k left).length ≤ k := by rw [at_len]; exact cnt_le _ _
    cases hb : left.testBit k with
    | true =>
      refine gIte (fun _ => gChk (by rw [List.length_append, cs_len]; simp only [List.length_cons, List.length_nil]; omega) (gSome ⟨by omega, by simp, ?_⟩)) fun q => absurd (by simp) q
      rw [cs_app]; unfold atL
      rw [List.range_succ, List.filter_append]; simp [hb]
    | false =>
      refine gIte (fun q => absurd q (by simp)) fun _ => gSome ⟨by omega, by simp, ?_⟩
      unfold atL
      rw [List.range_succ, List.filter_append]; simp [hb]
  rintro _ rfl
  simp only [cs_len, or_nat, toNat_nat, cs_get]
  rw [rkL_get m B hlc, rkL_get m B hc]
  have r1 := hM.rk_size (left ||| c)
  have r2 := hM.rk_size c
  have r3 := cnt_le m (left ||| c)
  have r4 := cnt_le m c
  have r5 := hM.rkF.mono c (left ||| c) (inc_or_r _ _)
  refine gChk ⟨by rw [rkL_len]; omega, by rw [rkL_len]; omega, by omega⟩ (gChk (by omega) ?_)
  generalize hA : atL m left = A at *
  have hR := hpl.rkF hM.rkF c
  refine gBind (R := fun v => ∃ K : List Nat, v = cs K ∧ K.Pairwise (· < ·) ∧ ∀ s, s ∈ K ↔ s < 2 ^ A.length ∧ cnt A.length s + rk m B c = rk m B (left ||| c) ∧ rk m B (im m A.length (fun i => A.getD i 0) s ||| c) = rk m B (left ||| c)) (gFor (2 ^ A.length) (fun k (x : List Int × Int) => x.2 = (k : Int) ∧ ∃ K : List Nat, x.1 = cs K ∧ K.Pairwise (· < ·) ∧ K.length ≤ k ∧ ∀ s, s ∈ K ↔ s < k ∧ cnt A.length s + rk m B c = rk m B (left ||| c) ∧ rk m B (im m A.length (fun i => A.getD i 0) s ||| c) = rk m B (left ||| c)) (Nat.zero_le _) ⟨rfl, [], rfl, List.Pairwise.nil, Nat.le_refl _, fun s => ⟨fun h => (by cases h), fun h => absurd h.1 (by omega)⟩⟩ ?_) ?_
  · rintro k ⟨_, _⟩ hk ⟨rfl, K, rfl, b1, b2, b3⟩
    dsimp only
    simp only [shl_nat']
    refine gIte (fun h1 => ?_) fun h1 => gSome ⟨K, rfl, b1, by
      have : k = 2 ^ A.length := by omega
      rw [this] at b3; exact b3⟩
    have hk' : k < 2 ^ A.length := by omega
    have hml := mv_loop h8 hk8 (P := A) (fun i hi => hpl.lt i hi) k
    simp only [cs_len, cs_get, toNat_nat, shl_nat'] at hml
    refine gBind hml ?_
    rintro _ rfl
    refine gBind (ones_spec (s := k) (by omega)) ?_
    rintro _ rfl
    have hil := im_lt m A.length (fun i => A.getD i 0) k
    have hilc := or_lt hil hc
    simp only [or_nat, toNat_nat, cs_get]
    rw [rkL_get m B hilc, cnt_of_lt hk' hk8]
    have r6 := hM.rk_size (im m A.length (fun i => A.getD i 0) k ||| c)
    have r7 := cnt_le m (im m A.length (fun i => A.getD i 0) k ||| c)
    have r8 := hM.rkF.mono c (im m A.length (fun i => A.getD i 0) k ||| c) (inc_or_r _ _)
    refine gChk ⟨fun _ => by rw [rkL_len]; omega, fun _ => by rw [rkL_len]; omega, fun _ => by omega⟩ ?_
    refine gIte (fun q => gChk (by rw [List.length_append, cs_len]; simp only [List.length_cons, List.length_nil]; omega) (gSome ⟨hk', by simp, K ++ [k], cs_app _ _, List.pairwise_append.2 ⟨b1, List.pairwise_singleton _ _, fun a ha b hb => ?_⟩, by rw [List.length_append]; simp only [List.length_cons, List.length_nil]; omega, fun s => ?_⟩)) fun q => gSome ⟨hk', by simp, K, rfl, b1, by omega, fun s => ?_⟩
    · rw [List.mem_singleton] at hb; subst hb; exact ((b3 a).1 ha).1
    · rw [List.mem_append, List.mem_singleton, b3]
      constructor
      · rintro (z | z)
        · exact ⟨by omega, z.2⟩
        · subst z; exact ⟨by omega, by omega, by omega⟩
      · intro z
        rcases Nat.lt_succ_iff_lt_or_eq.1 z.1 with y | y
        · exact .inl ⟨y, z.2⟩
        · exact .inr y
    · rw [b3]
      refine ⟨fun z => ⟨by omega, z.2⟩, fun z => ⟨?_, z.2⟩⟩
      rcases Nat.lt_succ_iff_lt_or_eq.1 z.1 with y | y
      · exact y
      · subst y
        exact absurd ⟨by omega, by omega⟩ q
  · rintro _ ⟨K, rfl, k1, k2⟩
    have hF := fam_pwS hk8 (fun s hs => ((k2 s).1 hs).1) k1
    have hub : ∀ s, rk m B c ≤ rk m B (im m A.length (fun i => A.getD i 0) s ||| c) := fun s => hM.rkF.mono _ _ (inc_or_r _ _)
    obtain ⟨hMat, hrk⟩ := hR.mat hk8 hF fun s => by
      rw [k2, hfull]
      have := hub s
      constructor
      · rintro ⟨z1, z2, z3⟩; exact ⟨z1, by omega, by omega⟩
      · rintro ⟨z1, z2, z3⟩; exact ⟨z1, by omega, by omega⟩
    exact gSome ⟨K, rfl, hMat, fun s hs => by rw [hrk s hs]; have := hub s; omega⟩
end Go.SH

set_option linter.unusedSimpArgs false
set_option linter.unusedVariables false
namespace Go.SH
open Go Go.AX

/-- An order that goes on so, and makes ranks the same from there on. -/
def GoOn (n : Nat) (X Y : Nat → Nat) (P : List Nat) : Prop := ∃ π : Nat → Nat, Pla n n π ∧ (∀ i, i < P.length → π i = P.getD i 0) ∧ ∀ s, 2 ^ P.length ≤ s → s < 2 ^ n → X s = Y (im n n π s)
structure PreO (n : Nat) (P : List Nat) (used : Nat) : Prop where
  len : P.length ≤ n
  lt : ∀ i, i < P.length → P.getD i 0 < n
  nd : P.Nodup
  ul : used < 2 ^ n
  ub : ∀ x, used.testBit x = true ↔ x ∈ P
theorem app_getS {L : List Nat} {j a : Nat} (h : j < L.length) : (L ++ [a]).getD j 0 = L.getD j 0 := by
  rw [List.getD_eq_getElem?_getD, List.getD_eq_getElem?_getD, List.getElem?_append_left h]
theorem app_lastS {L : List Nat} {a : Nat} : (L ++ [a]).getD L.length 0 = a := by
  rw [List.getD_eq_getElem?_getD, List.getElem?_append_right (Nat.le_refl _), Nat.sub_self]; rfl
section
variable {n : Nat} {X Y : Nat → Nat} {P : List Nat} {used : Nat}
theorem im_agree {k : Nat} {π : Nat → Nat} {Q : List Nat} (hQ : Q.length ≤ n) (h : ∀ i, i < Q.length → π i = Q.getD i 0) {s : Nat} (hs : s < 2 ^ Q.length) : im n n π s = im n Q.length (fun i => Q.getD i 0) s := bx fun x => by
  rw [Bool.eq_iff_iff, im_bit, im_bit]
  refine and_congr Iff.rfl ⟨fun ⟨i, i1, i2, i3⟩ => ?_, fun ⟨i, i1, i2, i3⟩ => ⟨i, by omega, i2, by rw [h i i1]; exact i3⟩⟩
  have := bit_lt hs i2
  exact ⟨i, this, i2, by rw [← h i this]; exact i3⟩
theorem PreO.more (h : PreO n P used) {k : Nat} (hk : k < n) (hb : used.testBit k = false) (hl : P.length < n) : PreO n (P ++ [k]) (used ||| 2 ^ k) := by
  refine ⟨by rw [List.length_append]; simp only [List.length_cons, List.length_nil]; omega, fun i hi => ?_, ?_, or_lt h.ul (pow_lt hk), fun x => ?_⟩
  · rw [List.length_append] at hi
    simp only [List.length_cons, List.length_nil] at hi
    rcases Nat.lt_or_ge i P.length with c | c
    · rw [app_getS c]; exact h.lt i c
    · have : i = P.length := by omega
      rw [this, app_lastS]; exact hk
  · rw [List.nodup_append]
    refine ⟨h.nd, List.pairwise_singleton _ _, fun a ha b hb2 e => ?_⟩
    rw [List.mem_singleton] at hb2
    subst hb2; subst e
    rw [(h.ub _).2 ha] at hb; cases hb
  · rw [Nat.testBit_or, testBit_pow, Bool.or_eq_true, h.ub, decide_eq_true_eq, List.mem_append, List.mem_singleton]
    exact or_congr Iff.rfl ⟨fun e => e.symm, fun e => e.symm⟩
theorem goOn_end (h : PreO n P used) (hl : P.length = n) : GoOn n X Y P := by
  refine ⟨fun i => P.getD i 0, ⟨fun i hi => h.lt i (by omega), fun i j hi hj e => nodup_getD h.nd (by omega) (by omega) e⟩, fun i _ => rfl, fun s h1 h2 => ?_⟩
  rw [hl] at h1; omega
theorem goOn_step (h : PreO n P used) (hl : P.length < n) : GoOn n X Y P ↔ ∃ k, k < n ∧ used.testBit k = false ∧ (∀ s, 2 ^ P.length ≤ s → s < 2 ^ (P.length + 1) → X s = Y (im n (P.length + 1) (fun i => (P ++ [k]).getD i 0) s)) ∧ GoOn n X Y (P ++ [k]) := by
  have elen : ∀ k, (P ++ [k]).length = P.length + 1 := fun k => by rw [List.length_append]; rfl
  have hpow : 2 ^ (P.length + 1) ≤ 2 ^ n := Nat.pow_le_pow_right (by omega) (by omega)
  have h2 : 2 ^ P.length ≤ 2 ^ (P.length + 1) := Nat.pow_le_pow_right (by omega) (by omega)
  constructor
  · rintro ⟨π, p1, p2, p3⟩
    have hag : ∀ i, i < (P ++ [π P.length]).length → π i = (P ++ [π P.length]).getD i 0 := fun i hi => by
      rw [elen] at hi
      rcases Nat.lt_or_ge i P.length with c | c
      · rw [app_getS c]; exact p2 i c
      · have : i = P.length := by omega
        rw [this, app_lastS]
    refine ⟨π P.length, p1.lt _ hl, ?_, fun s s1 s2 => ?_, π, p1, hag, fun s s1 s2 => p3 s (by rw [elen] at s1; omega) s2⟩
    · cases q : used.testBit (π P.length) with
      | false => rfl
      | true =>
        obtain ⟨i, i1, i2⟩ := mem_getD.1 ((h.ub _).1 q)
        rw [← p2 i i1] at i2
        have := p1.inj i P.length (by omega) hl i2
        omega
    · have := p3 s s1 (by omega)
      rw [im_agree (k := 0) (Q := P ++ [π P.length]) (by rw [elen]; omega) hag (by rw [elen]; exact s2), elen] at this
      exact this
  · rintro ⟨k, k1, k2, k3, π, p1, p2, p3⟩
    refine ⟨π, p1, fun i hi => by rw [p2 i (by rw [elen]; omega), app_getS hi], fun s s1 s2 => ?_⟩
    rcases Nat.lt_or_ge s (2 ^ (P.length + 1)) with c | c
    · rw [im_agree (k := 0) (Q := P ++ [k]) (by rw [elen]; omega) p2 (by rw [elen]; exact c), elen]
      exact k3 s s1 c
    · exact p3 s (by rw [elen]; exact c) s2
end
theorem bitX (s i : Nat) : (iand ((s : Int) / ((2 ^ i : Nat) : Int)) 1 = 1) ↔ s.testBit i = true := by
  rw [bitS]
  cases s.testBit i <;> simp
section
variable {n : Nat} {A C : List Nat}
theorem each1_spec (hA : Mat n A) (hC : Mat n C) (l1 l3 : List Int) : ∀ (fuel : Nat) (P : List Nat) (used : Nat) (q1 : List Int) (q2 : Bool), PreO n P used → n < fuel + P.length →
    Gets (same_each_1 fuel (used : Int) (n : Int) l1 (n : Int) l3 (cs (rkL n A)) (cs (rkL n C)) (cs P) q1 q2) (fun r => r.2.1 = cs P ∧ ((r.1 = false ∧ r.2.2.2 = true ∧ GoOn n (rk n A) (rk n C) P) ∨ (r.1 = true ∧ r.2.2.1 = q1 ∧ r.2.2.2 = q2 ∧ ¬ GoOn n (rk n A) (rk n C) P)))
  | 0, P, used, q1, q2, hP, hf => absurd hP.len (by omega)
  | fuel + 1, P, used, q1, q2, hP, hf => by
    have h8 := hA.m8
    have hp8 := pow_le8 h8
    have hPl := hP.len
    rw [same_each_1.eq_2]
    simp only [cs_len]
    refine gIte (fun q => ?_) fun q => ?_
    · have e : same_Isomorphic_1 (cs P) q1 q2 = some (false, cs P, true) := by
        unfold same_Isomorphic_1
        rw [chk_pos (by rw [cs_len]; omega)]
      exact gBindE e (gSome ⟨rfl, .inl ⟨rfl, rfl, goOn_end hP (by omega)⟩⟩)
    have hl : P.length < n := by omega
    have hpow : 2 ^ (P.length + 1) ≤ 2 ^ n := Nat.pow_le_pow_right (by omega) (by omega)
    have h2p : 2 ^ (P.length + 1) = 2 * 2 ^ P.length := by rw [Nat.pow_succ]; omega
    have h0p : 0 < 2 ^ P.length := Nat.pow_pos (by omega)
    refine gBind (R := fun z => match z with | .inl c => c.1 = cs P ∧ c.2.1 = q1 ∧ c.2.2 = q2 ∧ ¬ GoOn n (rk n A) (rk n C) P | .inr r => r.2.1 = cs P ∧ r.1 = false ∧ r.2.2.2 = true ∧ GoOn n (rk n A) (rk n C) P)
      (gFor n (fun k (x : List Int × List Int × Bool × Int) => x.2.2.2 = (k : Int) ∧ x.1 = cs P ∧ x.2.1 = q1 ∧ x.2.2.1 = q2 ∧ ∀ j, j < k → ¬ (used.testBit j = false ∧ (∀ s, 2 ^ P.length ≤ s → s < 2 ^ (P.length + 1) → rk n A s = rk n C (im n (P.length + 1) (fun i => (P ++ [j]).getD i 0) s)) ∧ GoOn n (rk n A) (rk n C) (P ++ [j]))) (Nat.zero_le _) ⟨rfl, rfl, rfl, rfl, none_all⟩ ?_) ?_
    · rintro k ⟨o0, o1, o2, _⟩ hk ⟨rfl, e0, e1, e2, hI⟩
      dsimp only at e0 e1 e2 hI ⊢
      subst e0
      have e1' := e1.symm; subst e1'
      have e2' := e2.symm; subst e2'
      simp only [toNat_nat, shl_nat', cs_len]
      refine gIte (fun h1 => gChk (by omega) ?_) fun h1 => gSome ⟨rfl, rfl, rfl, fun hg => ?_⟩
      rotate_left
      · obtain ⟨j, j1, j2, j3, j4⟩ := (goOn_step hP hl).1 hg
        exact hI j (by omega) ⟨j2, j3, j4⟩
      have hk' : k < n := by omega
      refine gIte (fun h2 => gSome ⟨hk', by simp, rfl, rfl, rfl, step_all hI fun z => ?_⟩) fun h2 => ?_
      · rw [(bitX used k).1 h2] at z; cases z.1
      have hb : used.testBit k = false := bool_ne fun z => h2 ((bitX used k).2 z)
      have hP2 := hP.more hk' hb hl
      have elen : (P ++ [k]).length = P.length + 1 := by rw [List.length_append]; rfl
      have eapp : cs P ++ [(k : Int)] = cs (P ++ [k]) := cs_app _ _
      rw [eapp]
      refine gChk (by rw [cs_len]; omega) (gChk (by omega) ?_)
      refine gBind (R := fun b => b = true ↔ ∀ s, 2 ^ P.length ≤ s → s < 2 ^ (P.length + 1) → rk n A s = rk n C (im n (P.length + 1) (fun i => (P ++ [k]).getD i 0) s)) (gFor (2 ^ (P.length + 1)) (fun j (x : Bool × Int) => x.2 = (j : Int) ∧ 2 ^ P.length ≤ j ∧ (x.1 = true ↔ ∀ s, 2 ^ P.length ≤ s → s < j → rk n A s = rk n C (im n (P.length + 1) (fun i => (P ++ [k]).getD i 0) s))) (k0 := 2 ^ P.length) (by omega) ⟨rfl, Nat.le_refl _, fun _ s s1 s2 => absurd s2 (by omega), fun _ => rfl⟩ ?_) ?_
      · rintro j ⟨ok, _⟩ hj ⟨rfl, j1, j2⟩
        dsimp only at j2 ⊢
        have eshl : shlOk .i64 2 ((P.length : Nat) : Int) = true := by
          have : ∀ b : Fin 9, shlOk .i64 2 ((b.val : Nat) : Int) = true := by decide
          exact this ⟨P.length, by omega⟩
        refine gChk eshl ?_
        refine gIte (fun h3 => ?_) fun h3 => gSome ?_
        · have hj' : j < 2 ^ (P.length + 1) := by omega
          have hjn : j < 2 ^ n := by omega
          refine gChk (by rw [rkL_len]; omega) ?_
          refine gBind (moved_spec h8 (P := P ++ [k]) (by rw [elen]; omega) hP2.lt j) ?_
          rintro _ rfl
          have hil := im_lt n (P ++ [k]).length (fun i => (P ++ [k]).getD i 0) j
          simp only [toNat_nat, cs_get]
          rw [rkL_get n A hjn, rkL_get n C hil]
          refine gChk (by rw [rkL_len]; omega) (gChk (by omega) (gSome ⟨hj', by simp, by omega, ?_⟩))
          show decide _ = true ↔ _
          rw [decide_eq_true_eq, elen]
          constructor
          · intro he s s1 s2
            rcases Nat.lt_succ_iff_lt_or_eq.1 s2 with c | c
            · exact j2.1 h3.2 s s1 c
            · subst c; omega
          · intro hall
            have := hall j j1 (by omega)
            omega
        · constructor
          · intro hok s s1 s2
            have : j = 2 ^ (P.length + 1) := by
              rcases Nat.lt_or_ge j (2 ^ (P.length + 1)) with c | c
              · exact absurd ⟨by omega, hok⟩ h3
              · omega
            exact j2.1 hok s s1 (by omega)
          · intro hall
            exact j2.2 fun s s1 s2 => hall s s1 (by omega)
      · intro ok hok
        refine gChk (fun _ => by omega) ?_
        refine gIte (fun h3 => ?_) fun h3 => ?_
        · have hok' : ok = true := by simpa using h3
          have hseg := hok.1 hok'
          rw [show ior (used : Int) ((2 ^ k : Nat) : Int) = ((used ||| 2 ^ k : Nat) : Int) from or_nat _ _]
          refine gBind (each1_spec hA hC l1 l3 fuel (P ++ [k]) (used ||| 2 ^ k) q1 q2 hP2 (by rw [elen]; omega)) ?_
          rintro ⟨b, p, out, found⟩ ⟨hp, hr⟩
          dsimp only at hp hr ⊢
          subst hp
          have htake : List.take P.length (cs (P ++ [k])) = cs P := by
            rw [← eapp]
            have : (cs P).length = P.length := cs_len P
            rw [← this, List.take_append_of_le_length (Nat.le_refl _), List.take_length]
          refine gChk (by rw [cs_len, elen]; omega) ?_
          rw [htake]
          rcases hr with ⟨rfl, rfl, hg⟩ | ⟨rfl, rfl, rfl, hg⟩
          · exact gIte (fun _ => gSome ⟨rfl, rfl, rfl, (goOn_step hP hl).2 ⟨k, hk', hb, hseg, hg⟩⟩) fun q => absurd (by simp) q
          · exact gIte (fun q => absurd rfl q) fun _ => gSome ⟨hk', by simp, rfl, rfl, rfl, step_all hI fun z => hg z.2.2⟩
        · have hno : ¬ ok = true := by simpa using h3
          have htake : List.take P.length (cs (P ++ [k])) = cs P := by
            rw [← eapp]
            have : (cs P).length = P.length := cs_len P
            rw [← this, List.take_append_of_le_length (Nat.le_refl _), List.take_length]
          refine gChk (by rw [cs_len, elen]; omega) ?_
          rw [htake]
          exact gIte (fun q => absurd trivial q) fun _ => gSome ⟨hk', by simp, rfl, rfl, rfl, step_all hI fun z => hno (hok.2 z.2.1)⟩
    · rintro (⟨c0, c1, c2⟩ | r) hz
      · obtain ⟨z1, z2, z3, z4⟩ := hz
        exact gSome ⟨z1, .inr ⟨rfl, z2, z3, z4⟩⟩
      · exact gSome ⟨hz.1, .inl hz.2⟩
/-- Ranks the same, by some order. -/
def Iso (n : Nat) (X Y : Nat → Nat) : Prop := ∃ π : Nat → Nat, Pla n n π ∧ ∀ s, s < 2 ^ n → X s = Y (im n n π s)
theorem goOn_nil (hA : Mat n A) (hC : Mat n C) : GoOn n (rk n A) (rk n C) [] ↔ Iso n (rk n A) (rk n C) := by
  constructor
  · rintro ⟨π, p1, _, p3⟩
    refine ⟨π, p1, fun s hs => ?_⟩
    rcases Nat.eq_zero_or_pos s with c | c
    · subst c; rw [im_zero, hA.rk_zero, hC.rk_zero]
    · exact p3 s c hs
  · rintro ⟨π, p1, p2⟩
    exact ⟨π, p1, fun i hi => absurd hi (by simp), fun s _ hs => p2 s hs⟩
theorem Isomorphic_spec {n' : Nat} {C : List Nat} (hA : Mat n A) (hC : Mat n' C) : Gets (same_Isomorphic (n : Int) (cs A) (n' : Int) (cs C)) (fun r => (r.2 = 0 ∧ n = n' ∧ Iso n (rk n A) (rk n C)) ∨ (r.2 = 5 ∧ ¬ (n = n' ∧ A.length = C.length ∧ Iso n (rk n A) (rk n C)))) := by
  have h8 := hA.m8
  unfold same_Isomorphic
  refine gBindE hA.check (gBindE hC.check (gIte (fun q => absurd rfl q) fun _ => gIte (fun q => absurd rfl q) fun _ => ?_))
  refine gJoin (R := fun v => (v.2 = true ∧ n = n' ∧ Iso n (rk n A) (rk n C)) ∨ (v.2 = false ∧ ¬ (n = n' ∧ A.length = C.length ∧ Iso n (rk n A) (rk n C)))) ?_ fun j hj => ?_
  · rintro ⟨o, f⟩ (⟨rfl, h⟩ | ⟨rfl, h⟩)
    · exact gIte (fun q => absurd rfl q) fun _ => gSome (.inl ⟨rfl, h⟩)
    · exact gIte (fun _ => gSome (.inr ⟨rfl, h⟩)) fun q => absurd (by simp) q
  · refine gIte (fun q => ?_) fun q => hj _ (.inr ⟨rfl, fun z => q ⟨by have := z.1; omega, by rw [cs_len, cs_len]; have := z.2.1; omega⟩⟩)
    obtain rfl : n = n' := by omega
    have er : ∀ {B : List Nat}, Mat n B → same_ranks (n : Int) (cs B) = some (cs (rkL n B)) := fun hB => by unfold same_ranks; rw [axioms_Ranks_ok hB]; rfl
    refine gBind (R := fun y => (y.2 = true ∧ Iso n (rk n A) (rk n C)) ∨ (y.2 = false ∧ ¬ Iso n (rk n A) (rk n C))) ?_ ?_
    · unfold same_each
      refine gBindE (er hA) (gBindE (er hC) ?_)
      refine gBind (each1_spec hA hC (cs A) (cs C) 12 [] 0 [] false ⟨Nat.zero_le _, fun i hi => absurd hi (by simp), List.Pairwise.nil, Nat.pow_pos (by omega), fun x => by simp⟩ (by simp only [List.length_nil]; omega)) ?_
      rintro ⟨b, p, out, found⟩ ⟨_, hr⟩
      dsimp only at hr ⊢
      rcases hr with ⟨_, rfl, hg⟩ | ⟨_, _, rfl, hg⟩
      · exact gSome (.inl ⟨rfl, (goOn_nil hA hC).1 hg⟩)
      · exact gSome (.inr ⟨rfl, fun z => hg ((goOn_nil hA hC).2 z)⟩)
    · rintro ⟨o, f⟩ (⟨hf, h⟩ | ⟨hf, h⟩)
      · exact hj _ (.inl ⟨hf, rfl, h⟩)
      · exact hj _ (.inr ⟨hf, fun z => h z.2.2⟩)
end
end Go.SH

set_option linter.unusedSimpArgs false
set_option linter.unusedVariables false
namespace Go.SH
open Go Go.AX

theorem im_comp {m k j : Nat} {f g : Nat → Nat} (hg : ∀ i, i < j → g i < k) (s : Nat) : im m k f (im k j g s) = im m j (fun i => f (g i)) s := bx fun x => by
  rw [Bool.eq_iff_iff, im_bit, im_bit]
  refine and_congr Iff.rfl ⟨fun ⟨i, i1, i2, i3⟩ => ?_, fun ⟨i, i1, i2, i3⟩ => ⟨g i, hg i i1, (im_bit ..).2 ⟨hg i i1, i, i1, i2, rfl⟩, i3⟩⟩
  obtain ⟨_, q, q1, q2, q3⟩ := (im_bit ..).1 i2
  exact ⟨q, q1, q2, by show f (g q) = x; rw [q3]; exact i3⟩
theorem im_congr {m k : Nat} {f g : Nat → Nat} (h : ∀ i, i < k → f i = g i) (s : Nat) : im m k f s = im m k g s := bx fun x => by
  rw [Bool.eq_iff_iff, im_bit, im_bit]
  exact and_congr Iff.rfl ⟨fun ⟨i, i1, i2, i3⟩ => ⟨i, i1, i2, by rw [← h i i1]; exact i3⟩, fun ⟨i, i1, i2, i3⟩ => ⟨i, i1, i2, by rw [h i i1]; exact i3⟩⟩
theorem im_id {n s : Nat} (hs : s < 2 ^ n) : im n n (fun i => i) s = s := bx fun x => by
  rw [Bool.eq_iff_iff, im_bit]
  exact ⟨fun ⟨_, i, _, i2, i3⟩ => by rw [← i3]; exact i2, fun h => ⟨bit_lt hs h, x, bit_lt hs h, h, rfl⟩⟩
theorem cnt_fullK (k : Nat) : cnt k (2 ^ k - 1) = k := by
  have := cpl_cnt (m := k) (s := 0)
  rw [cnt_zero] at this
  have e2 : cpl k 0 = 2 ^ k - 1 := bx fun i => by rw [cpl_bit, full_bit]; simp
  rw [e2] at this; omega
theorem same_im {m k : Nat} {f g : Nat → Nat} (hg : Pla m k g) (e : im m k f (2 ^ k - 1) = im m k g (2 ^ k - 1)) : ∃ π : Nat → Nat, Pla k k π ∧ ∀ i, i < k → f (π i) = g i := by
  have h1 : ∀ i, ∃ j, i < k → j < k ∧ f j = g i := fun i => by
    rcases Nat.lt_or_ge i k with c | c
    · have : (im m k g (2 ^ k - 1)).testBit (g i) = true := (im_bit ..).2 ⟨hg.lt i c, i, c, by rw [full_bit]; simp [c], rfl⟩
      rw [← e] at this
      obtain ⟨_, j, j1, _, j3⟩ := (im_bit ..).1 this
      exact ⟨j, fun _ => ⟨j1, j3⟩⟩
    · exact ⟨0, fun z => absurd z (by omega)⟩
  obtain ⟨π, hπ⟩ := Classical.axiomOfChoice h1
  refine ⟨π, ⟨fun i hi => (hπ i hi).1, fun i j hi hj q => hg.inj i j hi hj ?_⟩, fun i hi => (hπ i hi).2⟩
  rw [← (hπ i hi).2, ← (hπ j hj).2, q]
theorem Pla.onto {n : Nat} {π : Nat → Nat} (h : Pla n n π) : im n n π (2 ^ n - 1) = 2 ^ n - 1 := by
  refine inc_eq_of_cnt (m := n) (fun x hx => ?_) (full_lt n) ?_
  · rw [full_bit]; simpa using bit_lt (im_lt ..) hx
  · rw [h.cnt _ (full_lt n)]; exact Nat.le_refl _
theorem pla_id (n : Nat) : Pla n n (fun i => i) := ⟨fun _ h => h, fun _ _ _ _ e => e⟩
theorem Iso.symm {n : Nat} {X Y : Nat → Nat} (h : Iso n X Y) : Iso n Y X := by
  obtain ⟨π, p1, p2⟩ := h
  obtain ⟨τ, t1, t2⟩ := same_im (f := π) (pla_id n) (by rw [p1.onto, im_id (full_lt n)])
  refine ⟨τ, t1, fun s hs => ?_⟩
  rw [p2 _ (im_lt ..), im_comp t1.lt, im_congr t2, im_id hs]
theorem Mat.mem_iff {m : Nat} {B : List Nat} (h : Mat m B) (s : Nat) : s ∈ B ↔ s < 2 ^ m ∧ rk m B s = cnt m s ∧ rk m B s = rk m B (2 ^ m - 1) := by
  have hf : ∀ b, b ∈ B → (2 ^ m - 1) &&& b = b := fun b hb => by
    rw [Nat.and_comm]
    exact inc_and_self fun x hx => by rw [full_bit]; simpa using bit_lt (h.lt b hb) hx
  have hb : ∀ b, b ∈ B → rk m B b = cnt m b := fun b hb => by
    have h1 := le_rk (m := m) (s := b) hb
    have h2 := h.rk_size b
    rw [Nat.and_self] at h1; omega
  have hfull : ∀ b, b ∈ B → rk m B (2 ^ m - 1) = cnt m b := fun b hb => by
    obtain ⟨b', h1, h2⟩ := h.rk_mem (2 ^ m - 1)
    rw [h2, hf b' h1]; exact h.eqc b' h1 b hb
  constructor
  · intro hs; exact ⟨h.lt s hs, hb s hs, by rw [hb s hs, hfull s hs]⟩
  · rintro ⟨h1, h2, h3⟩
    obtain ⟨b, b1, b2⟩ := (h.ind_iff h1).2 h2
    have := inc_eq_of_cnt b2 (h.lt b b1) (by rw [← hfull b b1]; omega)
    subst this; exact b1
theorem Fam.nodup {m : Nat} {B : List Nat} (h : Fam m B) : B.Nodup := by
  refine List.pairwise_iff_getElem.2 fun i j hi hj hij => ?_
  have := h.rise i j hij hj
  rw [List.getD_eq_getElem?_getD, List.getD_eq_getElem?_getD, List.getElem?_eq_getElem hi, List.getElem?_eq_getElem hj] at this
  exact Nat.ne_of_lt this
theorem inj_len {g : Nat → Nat} : ∀ (K C : List Nat), K.Nodup → (∀ a, a ∈ K → ∀ b, b ∈ K → g a = g b → a = b) → (∀ a, a ∈ K → g a ∈ C) → K.length ≤ C.length
  | [], C, _, _, _ => Nat.zero_le _
  | a :: K, C, h1, h2, h3 => by
    have hc : g a ∈ C := h3 a List.mem_cons_self
    have hn := List.nodup_cons.1 h1
    have := inj_len K (C.erase (g a)) hn.2 (fun x hx y hy => h2 x (List.mem_cons_of_mem _ hx) y (List.mem_cons_of_mem _ hy)) fun x hx => by
      refine (List.mem_erase_of_ne fun q => ?_).2 (h3 x (List.mem_cons_of_mem _ hx))
      have := h2 x (List.mem_cons_of_mem _ hx) a List.mem_cons_self q
      subst this; exact hn.1 hx
    rw [List.length_erase_of_mem hc] at this
    have : 0 < C.length := List.length_pos_of_mem hc
    rw [List.length_cons]; omega
theorem Pla.im_inj {m k : Nat} {f : Nat → Nat} (h : Pla m k f) {s t : Nat} (hs : s < 2 ^ k) (ht : t < 2 ^ k) (e : im m k f s = im m k f t) : s = t :=
  set_ext hs ht fun i hi => by rw [← h.bit hi, ← h.bit (s := t) hi, e]
theorem Iso.len {k : Nat} {K C : List Nat} (hK : Mat k K) (hC : Mat k C) (h : Iso k (rk k K) (rk k C)) : K.length ≤ C.length := by
  obtain ⟨π, p1, p2⟩ := h
  refine inj_len (g := im k k π) K C hK.toFam.nodup (fun a ha b hb e => p1.im_inj (hK.lt a ha) (hK.lt b hb) e) fun a ha => ?_
  obtain ⟨h1, h2, h3⟩ := (hK.mem_iff a).1 ha
  refine (hC.mem_iff _).2 ⟨im_lt .., by rw [← p2 a h1, p1.cnt a h1]; exact h2, ?_⟩
  rw [← p2 a h1, h3, p2 _ (full_lt k), p1.onto]
/-- A minor, with what goes. -/
def EmbAt (m k : Nat) (RA RB : Nat → Nat) (d c : Nat) : Prop := c &&& d = 0 ∧ ∃ f : Nat → Nat, Pla m k f ∧ im m k f (2 ^ k - 1) = cpl m (d ||| c) ∧ ∀ s, s < 2 ^ k → RB s + RA c = RA (im m k f s ||| c)
theorem emb_iff {m k : Nat} {RA RB : Nat → Nat} : Emb m k RA RB ↔ ∃ d c, d < 2 ^ m ∧ c < 2 ^ m ∧ EmbAt m k RA RB d c := by
  constructor
  · rintro ⟨f, c, f1, c1, fc, fr⟩
    have hd : ∀ x, (im m k f (2 ^ k - 1)).testBit x = true → c.testBit x = false := fun x hx => by
      obtain ⟨_, i, i1, _, i3⟩ := (im_bit ..).1 hx
      rw [← i3]; exact fc i i1
    refine ⟨cpl m (im m k f (2 ^ k - 1) ||| c), c, cpl_lt _ _, c1, bx fun x => ?_, f, f1, set_ext (im_lt ..) (cpl_lt _ _) fun x hx => ?_, fr⟩
    · rw [Nat.testBit_and, cpl_bit, Nat.testBit_or]
      cases c.testBit x <;> simp
    · rw [cpl_bit, Nat.testBit_or, cpl_bit, Nat.testBit_or]
      have := hd x
      cases q : (im m k f (2 ^ k - 1)).testBit x <;> cases q2 : c.testBit x <;> simp [hx]
      rw [q, q2] at this
      exact absurd (this rfl) (by simp)
  · rintro ⟨d, c, d1, c1, hdc, f, f1, f2, f3⟩
    refine ⟨f, c, f1, c1, fun i hi => ?_, f3⟩
    have : (im m k f (2 ^ k - 1)).testBit (f i) = true := (im_bit ..).2 ⟨f1.lt i hi, i, hi, by rw [full_bit]; simp [hi], rfl⟩
    rw [f2, cpl_bit, Nat.testBit_or] at this
    cases q : c.testBit (f i) with
    | false => rfl
    | true => rw [q] at this; simp at this
theorem EmbAt.size {m k : Nat} {RA RB : Nat → Nat} {d c : Nat} (h : EmbAt m k RA RB d c) : cnt m (cpl m (d ||| c)) = k := by
  obtain ⟨_, f, f1, f2, _⟩ := h
  rw [← f2, f1.cnt _ (full_lt k), cnt_fullK]
theorem EmbAt.full {m k : Nat} {RA RB : Nat → Nat} {d c : Nat} (h : EmbAt m k RA RB d c) : RB (2 ^ k - 1) + RA c = RA (cpl m (d ||| c) ||| c) := by
  obtain ⟨_, f, f1, f2, f3⟩ := h
  rw [f3 _ (full_lt k), f2]
section
variable {m k : Nat} {R X Y : Nat → Nat} {d c : Nat} {g : Nat → Nat} (hg : Pla m k g) (e : im m k g (2 ^ k - 1) = cpl m (d ||| c)) (hX : ∀ s, s < 2 ^ k → X s + R c = R (im m k g s ||| c))
include hg e hX
theorem EmbAt.iso (h : EmbAt m k R Y d c) : Iso k X Y := by
  obtain ⟨_, f, f1, f2, f3⟩ := h
  obtain ⟨π, p1, p2⟩ := same_im (f := f) hg (by rw [f2, e])
  refine ⟨π, p1, fun s hs => ?_⟩
  have h1 := hX s hs
  have h2 := f3 _ (im_lt k k π s)
  rw [im_comp p1.lt, im_congr p2] at h2
  omega
theorem embAt_of_iso (hd : c &&& d = 0) (h : Iso k X Y) : EmbAt m k R Y d c := by
  obtain ⟨τ, t1, t2⟩ := h.symm
  refine ⟨hd, fun i => g (τ i), ⟨fun i hi => hg.lt _ (t1.lt i hi), fun i j hi hj q => t1.inj i j hi hj (hg.inj _ _ (t1.lt i hi) (t1.lt j hj) q)⟩, ?_, fun s hs => ?_⟩
  · rw [← im_comp t1.lt, t1.onto, e]
  · rw [t2 s hs, hX _ (im_lt ..), im_comp t1.lt]
end
/-- The first minor found. -/
def Fnd (m k : Nat) (RA RB : Nat → Nat) (r : Int × Int × Int) : Prop := ∃ d c : Nat, r = ((d : Int), (c : Int), 0) ∧ d < 2 ^ m ∧ c < 2 ^ m ∧ EmbAt m k RA RB d c ∧ (∀ d', d' < d → ∀ c', c' < 2 ^ m → ¬ EmbAt m k RA RB d' c') ∧ ∀ c', c' < c → ¬ EmbAt m k RA RB d c'
theorem Fnd.emb {m k : Nat} {RA RB : Nat → Nat} {r : Int × Int × Int} (h : Fnd m k RA RB r) : r.2.2 = 0 ∧ Emb m k RA RB := by
  obtain ⟨d, c, rfl, h1, h2, h3, _⟩ := h
  exact ⟨rfl, emb_iff.2 ⟨d, c, h1, h2, h3⟩⟩
theorem Minor_okk {m k : Nat} {A C : List Nat} (hA : Mat m A) (hC : Mat k C) : Gets (same_Minor (m : Int) (cs A) (k : Int) (cs C)) (fun r => Fnd m k (rk m A) (rk k C) r ∨ (r = (0, 0, 5) ∧ ¬ Emb m k (rk m A) (rk k C))) := by
  have h8 := hA.m8
  have hp8 := pow_le8 h8
  have k8 := hC.m8
  have kp8 := pow_le8 k8
  have m0 : 0 < 2 ^ m := Nat.pow_pos (by omega)
  have k0 : 0 < 2 ^ k := Nat.pow_pos (by omega)
  have er : ∀ {n : Nat} {B : List Nat}, Mat n B → same_ranks (n : Int) (cs B) = some (cs (rkL n B)) := fun hB => by unfold same_ranks; rw [axioms_Ranks_ok hB]; rfl
  unfold same_Minor
  refine gBindE hA.check (gBindE hC.check (gIte (fun q => absurd rfl q) fun _ => gIte (fun q => absurd rfl q) fun _ => gBindE (er hA) (gBindE (er hC) ?_)))
  have e1 : (((2 ^ k : Nat) : Int) - 1) = ((2 ^ k - 1 : Nat) : Int) := by omega
  have e2 : (((2 ^ m : Nat) : Int) - 1) = ((2 ^ m - 1 : Nat) : Int) := by omega
  simp only [toNat_nat, shl_nat', e1, e2, cs_len, rkL_len]
  refine gChk (by omega) (gChk (by omega) (gChk (by omega) (gChk (by omega) ?_)))
  refine gBind (R := fun z => match z with | .inl _ => ¬ Emb m k (rk m A) (rk k C) | .inr r => Fnd m k (rk m A) (rk k C) r) (gFor (2 ^ m) (fun d (x : Int) => x = (d : Int) ∧ ∀ d', d' < d → ∀ c, c < 2 ^ m → ¬ EmbAt m k (rk m A) (rk k C) d' c) (Nat.zero_le _) ⟨rfl, none_all⟩ ?_) ?_
  rotate_left
  · rintro (u | r) hz
    · exact gSome (.inr ⟨rfl, hz⟩)
    · exact gSome (.inl hz)
  rintro d _ hd ⟨rfl, hD⟩
  refine gIte (fun h1 => gChk (by omega) ?_) fun h1 => gSome ?_
  rotate_left
  · show ¬ Emb _ _ _ _
    rw [emb_iff]
    rintro ⟨d', c', z1, z2, z3⟩
    exact hD d' (by omega) c' z2 z3
  have hd' : d < 2 ^ m := by omega
  refine gBind (R := fun z => match z with | .inl _ => ∀ c, c < 2 ^ m → ¬ EmbAt m k (rk m A) (rk k C) d c | .inr r => Fnd m k (rk m A) (rk k C) r) (gFor (2 ^ m) (fun c (x : Int) => x = (c : Int) ∧ ∀ c', c' < c → ¬ EmbAt m k (rk m A) (rk k C) d c') (Nat.zero_le _) ⟨rfl, none_all⟩ ?_) ?_
  rotate_left
  · rintro (u | r) hz
    · exact gSome ⟨hd', by simp, step_all hD hz⟩
    · exact gSome hz
  rintro c _ hc ⟨rfl, hI⟩
  refine gIte (fun h2 => gChk (by omega) ?_) fun h2 => gSome fun c' hc' => hI c' (by omega)
  have hc' : c < 2 ^ m := by omega
  have hnext : ¬ EmbAt m k (rk m A) (rk k C) d c → c < 2 ^ m ∧ ((c : Int) + 1 = ((c + 1 : Nat) : Int) ∧ ∀ c', c' < c + 1 → ¬ EmbAt m k (rk m A) (rk k C) d c') := fun q => ⟨hc', by simp, step_all hI q⟩
  simp only [or_nat, and_nat, dif_nat, toNat_nat, cs_get]
  rw [show dif (2 ^ m - 1) (d ||| c) = cpl m (d ||| c) from rfl]
  have hl := cpl_lt m (d ||| c)
  generalize hL : cpl m (d ||| c) = left at *
  have hlc := or_lt hl hc'
  refine gBind (R := fun y => c &&& d = 0 → y = ((cnt m left : Nat) : Int)) ?_ fun y hy => ?_
  · refine gIte (fun q => ?_) fun q => gSome fun z => absurd z (by omega)
    have := ones_spec (s := left) (by omega)
    rw [cnt_of_lt hl h8] at this
    exact this.mono fun _ z _ => z
  have r1 := hA.rk_size (left ||| c)
  have r2 := hA.rk_size c
  have r3 := cnt_le m (left ||| c)
  have r4 := cnt_le m c
  have r5 := hA.rkF.mono c (left ||| c) (inc_or_r _ _)
  rw [rkL_get m A hlc, rkL_get m A hc', rkL_get k C (full_lt k)]
  refine gChk ⟨fun _ => by omega, fun _ => by omega, fun _ => by omega⟩ (gIte (fun q => gSome (hnext fun z => ?_)) fun q => ?_)
  · rcases q with (q | q) | q
    · exact q (by rw [z.1]; rfl)
    · have := z.size
      rw [hL] at this
      rw [hy z.1] at q; omega
    · have := z.full
      rw [hL] at this
      omega
  have hcd : c &&& d = 0 := by
    rcases Nat.eq_zero_or_pos (c &&& d) with w | w
    · exact w
    · exact absurd (.inl (.inl (by omega))) q
  have hk : cnt m left = k := by
    have := hy hcd
    subst this
    rcases Classical.em (cnt m left = k) with w | w
    · exact w
    · exact absurd (.inl (.inr (by omega))) q
  refine gBind (restricted_spec hA hl hc') ?_
  rintro _ ⟨K, rfl, hK, hR⟩
  dsimp only
  have hal : (atL m left).length = k := by rw [at_len, hk]
  have hg := at_pla m left
  have hgf := at_full hl
  rw [hal] at hK hR hg hgf ⊢
  replace hgf := hgf.trans hL.symm
  refine gIte (fun q2 => gSome (hnext fun z => ?_)) fun q2 => ?_
  · have hi := EmbAt.iso hg hgf hR z
    have l1 := hi.len hK hC
    have l2 := hi.symm.len hC hK
    rw [cs_len] at q2; omega
  refine gBind (Isomorphic_spec hK hC) ?_
  rintro ⟨o, er⟩ (⟨y1, _, y2⟩ | ⟨y1, y2⟩)
  · dsimp only at y1; subst y1
    exact gIte (fun _ => gSome ⟨d, c, rfl, hd', hc', embAt_of_iso hg hgf hR hcd y2, hD, hI⟩) fun w => absurd rfl w
  · dsimp only at y1; subst y1
    refine gIte (fun w => absurd w (by omega)) fun _ => gSome (hnext fun z => y2 ⟨rfl, ?_, EmbAt.iso hg hgf hR z⟩)
    rw [cs_len] at q2; omega
theorem Minor_ok {m k : Nat} {A C : List Nat} (hA : Mat m A) (hC : Mat k C) : Gets (same_Minor (m : Int) (cs A) (k : Int) (cs C)) (fun r => (r.2.2 = 0 ∧ Emb m k (rk m A) (rk k C)) ∨ (r.2.2 = 5 ∧ ¬ Emb m k (rk m A) (rk k C))) := by
  refine (Minor_okk hA hC).mono ?_
  rintro r (h | ⟨rfl, h⟩)
  · exact .inl h.emb
  · exact .inr ⟨rfl, h⟩
theorem Minor_spec {n n' : Int} {l l' : List Int} (h1 : l.length ≤ 9223372036854775807) (h2 : l'.length ≤ 9223372036854775807) : Gets (same_Minor n l n' l') (fun r => r.2.2 = 0 ↔ ∃ m A k C, n = ((m : Nat) : Int) ∧ l = cs A ∧ n' = ((k : Nat) : Int) ∧ l' = cs C ∧ Mat m A ∧ Mat k C ∧ Emb m k (rk m A) (rk k C)) := by
  obtain ⟨c1, e1, g1⟩ := axioms_Check_spec n l h1
  obtain ⟨c2, e2, g2⟩ := axioms_Check_spec n' l' h2
  rcases g1 with ⟨rfl, m, A, rfl, rfl, hA⟩ | ⟨y1, y2⟩
  · rcases g2 with ⟨rfl, k, C, rfl, rfl, hC⟩ | ⟨y1, y2⟩
    · refine (Minor_ok hA hC).mono ?_
      rintro r (⟨z1, z2⟩ | ⟨z1, z2⟩)
      · exact ⟨fun _ => ⟨m, A, k, C, rfl, rfl, rfl, rfl, hA, hC, z2⟩, fun _ => z1⟩
      · refine ⟨fun w => by omega, ?_⟩
        rintro ⟨m', A', k', C', w1, w2, w3, w4, _, _, w7⟩
        have := cs_inj w2; have := cs_inj w4
        obtain rfl : m = m' := by omega
        obtain rfl : k = k' := by omega
        subst A'; subst C'
        exact absurd w7 z2
    · unfold same_Minor
      refine gBindE e1 (gBindE e2 (gIte (fun q => absurd rfl q) fun _ => gIte (fun _ => gSome ⟨fun w => absurd w y1, ?_⟩) fun q => absurd y1 q))
      rintro ⟨m', A', k', C', w1, w2, w3, w4, _, w6, w7⟩
      exact absurd ⟨k', C', w3, w4, w6⟩ y2
  · unfold same_Minor
    refine gBindE e1 (gBindE e2 (gIte (fun _ => gSome ⟨fun w => absurd w y1, ?_⟩) fun q => absurd y1 q))
    rintro ⟨m', A', k', C', w1, w2, w3, w4, w5, _, w7⟩
    exact absurd ⟨m', A', w1, w2, w5⟩ y2
end Go.SH
