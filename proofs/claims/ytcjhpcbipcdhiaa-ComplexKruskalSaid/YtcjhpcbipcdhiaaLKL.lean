/-
  The shadow as the program and as the document have it, counted; the first so many sets of a size. Conditions: at most eight elements.
-/
import Derived.Test.YtcjhpcbipcdhiaaLKK
import Derived.Test.YtcjhpcbipcdhiaaLBk
import Derived.Test.YtcjhpcbipcdhiaaSprotakeep
set_option linter.unusedSimpArgs false
set_option linter.unusedVariables false
namespace Go.SH
open Go Go.AX

/-- How many of a sorted family's sets are in a class. -/
theorem num_filter (m : Nat) (p : Nat → Bool) : num m p = (((List.range (2 ^ m)).filter p).length : Int) := by
  unfold num
  have key : ∀ n, sumN n (fun s => if p s = true then 1 else 0) = (((List.range n).filter p).length : Int) := by
    intro n
    induction n with
    | zero => rfl
    | succ n ih =>
      rw [sumN, ih, List.range_succ, List.filter_append]
      cases h : p n <;> simp [h]
  exact key _
theorem fam_num {m : Nat} {L : List Nat} (h : Fam m L) : num m (fun s => decide (s ∈ L)) = (L.length : Int) := by
  rw [num_filter]
  congr 2
  exact (h.ext (filter_fam h.m8 fun s => decide (s ∈ L)) (fun s => by
    rw [List.mem_filter, List.mem_range, decide_eq_true_eq]
    exact ⟨fun q => ⟨h.lt s q, q⟩, fun q => q.2⟩)).symm

theorem ShadowK {m : Nat} {L : List Nat} (hL : Fam m L) : Gets (sets_Shadow m (cs L)) (fun r => r.2 = 0 ∧ ∃ K, r.1 = cs K ∧ Fam m K ∧ ∀ x, x ∈ K ↔ ∃ s i, s ∈ L ∧ s.testBit i = true ∧ x = dif s (2 ^ i)) := by
  have h8 := hL.m8
  have h256 := pow_le8 h8
  have hLl := hL.len
  unfold sets_Shadow
  refine gBindE (FamilyB hL) (gIte (fun q => absurd rfl q) fun _ => ?_)
  refine gBind (R := fun o => ∃ N, o = cs N ∧ N.length ≤ 2048 ∧ ∀ x, x ∈ N ↔ ∃ s i, s ∈ L ∧ s.testBit i = true ∧ x = dif s (2 ^ i)) (gFor L.length (fun k (x : List Int × Int) => x.2 = (k : Int) ∧ ∃ N, x.1 = cs N ∧ N.length ≤ 8 * k ∧ ∀ x, x ∈ N ↔ ∃ j i, j < k ∧ (L.getD j 0).testBit i = true ∧ x = dif (L.getD j 0) (2 ^ i)) (Nat.zero_le _) ⟨rfl, [], rfl, by simp, fun x => by simp⟩ ?_) ?_
  · rintro k ⟨_, _⟩ hk ⟨rfl, N, rfl, hNl, hN⟩
    simp only [cs_len, cs_get, toNat_nat]
    refine gIte (fun h1 => gChk (by omega) ?_) fun h1 => gSome ⟨N, rfl, by omega, fun x => ?_⟩
    rotate_left
    · rw [hN]
      constructor
      · rintro ⟨j, i, h2, h3, h4⟩
        exact ⟨_, i, mem_getD.2 ⟨j, by omega, rfl⟩, h3, h4⟩
      · rintro ⟨s, i, h2, h3, h4⟩
        obtain ⟨j, hj, rfl⟩ := mem_getD.1 h2
        exact ⟨j, i, by omega, h3, h4⟩
    have hk' : k < L.length := by omega
    have hlt := hL.lt _ (mem_getD.2 ⟨k, hk', rfl⟩)
    refine gBind (R := fun o => ∃ N', o = cs N' ∧ N'.length ≤ 8 * (k + 1) ∧ ∀ x, x ∈ N' ↔ ∃ j i, j < k + 1 ∧ (L.getD j 0).testBit i = true ∧ x = dif (L.getD j 0) (2 ^ i)) (gFor m (fun i (x : List Int × Int) => x.2 = (i : Int) ∧ ∃ N', x.1 = cs N' ∧ N'.length ≤ 8 * k + i ∧ ∀ x, x ∈ N' ↔ x ∈ N ∨ ∃ a, a < i ∧ (L.getD k 0).testBit a = true ∧ x = dif (L.getD k 0) (2 ^ a)) (Nat.zero_le _) ⟨rfl, N, rfl, by omega, fun x => by simp⟩ ?_) fun o ⟨N', h1, h2, h3⟩ => gSome ⟨hk', by simp, N', h1, h2, h3⟩
    rintro i ⟨_, _⟩ hi ⟨rfl, N', rfl, hNl', hN'⟩
    simp only [toNat_nat, shl_nat', dif_nat, bitB]
    refine gIte (fun h3 => gChk (by omega) ?_) fun h3 => gSome ⟨N', rfl, by omega, fun x => ?_⟩
    rotate_left
    · rw [hN', hN]
      constructor
      · rintro (⟨j, a, h4, h5, h6⟩ | ⟨a, h4, h5, h6⟩)
        · exact ⟨j, a, by omega, h5, h6⟩
        · exact ⟨k, a, by omega, h5, h6⟩
      · rintro ⟨j, a, h4, h5, h6⟩
        rcases Nat.lt_succ_iff_lt_or_eq.1 h4 with c | rfl
        · exact .inl ⟨j, a, c, h5, h6⟩
        · have := bit_lt hlt h5
          exact .inr ⟨a, by omega, h5, h6⟩
    have hi' : i < m := by omega
    cases hbit : (L.getD k 0).testBit i with
    | true =>
      refine gIte (fun _ => gChk ⟨by omega, by rw [List.length_append, cs_len]; simp only [List.length_cons, List.length_nil]; omega⟩ (gSome ⟨hi', by simp, N' ++ [dif (L.getD k 0) (2 ^ i)], cs_app _ _, by rw [List.length_append]; simp only [List.length_cons, List.length_nil]; omega, fun x => ?_⟩)) fun q2 => absurd (by simp) q2
      rw [List.mem_append, hN', List.mem_singleton]
      constructor
      · rintro ((q | ⟨a, h4, h5, h6⟩) | q)
        · exact .inl q
        · exact .inr ⟨a, by omega, h5, h6⟩
        · exact .inr ⟨i, by omega, hbit, q⟩
      · rintro (q | ⟨a, h4, h5, h6⟩)
        · exact .inl (.inl q)
        · rcases Nat.lt_succ_iff_lt_or_eq.1 h4 with c | rfl
          · exact .inl (.inr ⟨a, c, h5, h6⟩)
          · exact .inr h6
    | false =>
      refine gIte (fun q2 => absurd q2 (by simp)) fun _ => gSome ⟨hi', by simp, N', rfl, by omega, fun x => ?_⟩
      rw [hN']
      constructor
      · rintro (q | ⟨a, h4, h5, h6⟩)
        · exact .inl q
        · exact .inr ⟨a, by omega, h5, h6⟩
      · rintro (q | ⟨a, h4, h5, h6⟩)
        · exact .inl q
        · rcases Nat.lt_succ_iff_lt_or_eq.1 h4 with c | rfl
          · exact .inr ⟨a, c, h5, h6⟩
          · rw [hbit] at h5; cases h5
  · rintro o ⟨N, rfl, hNl, hN⟩
    obtain ⟨K, hK, hKf, hKm⟩ := sortU h8 N fun x hx => by
      obtain ⟨s, i, h1, h2, rfl⟩ := (hN x).1 hx
      exact dif_lt (hL.lt s h1)
    have hKl := hKf.len
    refine gChk (by simp; omega) ?_
    rw [hK]
    exact gChk (by simp; omega) (gSome ⟨rfl, K, rfl, hKf, fun x => (hKm x).trans (hN x)⟩)

/-- The shadow of a family, by its members. -/
theorem shad_mem {m : Nat} {L : List Nat} (hL : Fam m L) {t : Nat} (ht : t < 2 ^ m) : shad m (fun s => decide (s ∈ L)) t = true ↔ ∃ s i, s ∈ L ∧ s.testBit i = true ∧ t = dif s (2 ^ i) := by
  rw [shad_iff]
  constructor
  · rintro ⟨i, hi, h1, h2⟩
    refine ⟨_, i, of_decide_eq_true h2, by rw [Nat.testBit_or, testBit_pow]; simp, Nat.eq_of_testBit_eq fun j => ?_⟩
    rw [testBit_dif, Nat.testBit_or, testBit_pow]
    by_cases c : i = j
    · subst c; simp [h1]
    · simp [c]
  · rintro ⟨s, i, h1, h2, rfl⟩
    refine ⟨i, bit_lt (hL.lt s h1) h2, by rw [testBit_dif, testBit_pow]; simp, ?_⟩
    rw [dif_or h2]; exact decide_eq_true h1
theorem shadow_num {m : Nat} {L K : List Nat} (hL : Fam m L) (hK : Fam m K) (h : ∀ x, x ∈ K ↔ ∃ s i, s ∈ L ∧ s.testBit i = true ∧ x = dif s (2 ^ i)) : num m (shad m fun s => decide (s ∈ L)) = (K.length : Int) := by
  rw [← fam_num hK]
  have h1 : ∀ s, s < 2 ^ m → (shad m (fun s => decide (s ∈ L)) s = true ↔ decide (s ∈ K) = true) := fun s hs => by
    rw [shad_mem hL hs, decide_eq_true_eq, h]
  have a := num_le (m := m) (A := shad m fun s => decide (s ∈ L)) (B := fun s => decide (s ∈ K)) fun s hs q => (h1 s hs).1 q
  have b := num_le (m := m) (A := fun s => decide (s ∈ K)) (B := shad m fun s => decide (s ∈ L)) fun s hs q => (h1 s hs).2 q
  omega

/-! ### the document's shadow -/
theorem rotaref_Has_spec (L : List Nat) (s : Nat) (hl : L.length ≤ 256) : rotaref_Has (cs L) s = some (decide (s ∈ L)) := by
  unfold rotaref_Has
  rw [slices_Contains_spec _ _ (by simp; omega), Option.bind_some]
  congr 1
  exact decide_eq_decide.2 (cs_mem L s)
theorem or_add_tab : ∀ s : Fin 256, ∀ i : Fin 8, s.val.testBit i.val = false → s.val ||| 2 ^ i.val = s.val + 2 ^ i.val := of_decide_eq_true (by kernel_rfl)
theorem or_add {s i : Nat} (hs : s < 256) (hi : i < 8) (h : s.testBit i = false) : s ||| 2 ^ i = s + 2 ^ i := or_add_tab ⟨s, hs⟩ ⟨i, hi⟩ h
theorem rotaref_Shadow_1_spec {m : Nat} (h8 : m ≤ 8) (L : List Nat) (hl : L.length ≤ 256) {s : Nat} (hs : s < 2 ^ m) : rotaref_Shadow_1 s m (cs L) = some (shad m (fun t => decide (t ∈ L)) s) := by
  have h256 := pow_le8 h8
  refine Gets.eq ?_
  unfold rotaref_Shadow_1
  refine gBind (R := fun z => match z with | .inl _ => ∀ i, i < m → ¬ (s.testBit i = false ∧ s ||| 2 ^ i ∈ L) | .inr r => r = true ∧ ∃ i, i < m ∧ s.testBit i = false ∧ s ||| 2 ^ i ∈ L)
    (gFor m (fun i v => v = (i : Int) ∧ ∀ j, j < i → ¬ (s.testBit j = false ∧ s ||| 2 ^ j ∈ L)) (Nat.zero_le _) ⟨rfl, fun j hj => absurd hj (Nat.not_lt_zero j)⟩ ?_) ?_
  · rintro i _ hi ⟨rfl, hb⟩
    refine gIte (fun h1 => ?_) fun h1 => gSome fun j hj => hb j (by omega)
    have hi' : i < m := by omega
    have hp := pow_le8 (show i ≤ 8 by omega)
    have hp0 : (0 : Int) ≤ ((2 ^ i : Nat) : Int) := Int.natCast_nonneg _
    refine gBindE (rotaref_In_nat s i) ?_
    simp only [toNat_nat, shl_nat']
    refine gChk ⟨fun _ => by omega, fun _ => by omega⟩ ?_
    cases hbit : s.testBit i with
    | true =>
      rw [if_neg (by simp)]
      refine gBindE rfl (gIte (fun q => absurd q (by simp)) fun _ => gSome ⟨hi', by simp, fun j hj => ?_⟩)
      rcases Nat.lt_succ_iff_lt_or_eq.1 hj with c | rfl
      · exact hb j c
      · rw [hbit]; simp
    | false =>
      rw [if_pos (by simp), show (s : Int) + ((2 ^ i : Nat) : Int) = ((s ||| 2 ^ i : Nat) : Int) by rw [or_add (by omega) (by omega) hbit]; simp]
      refine gBindE (rotaref_Has_spec L _ hl) (gIte (fun q => gSome ⟨rfl, i, hi', hbit, of_decide_eq_true q.2⟩) fun q => gSome ⟨hi', by simp, fun j hj => ?_⟩)
      rcases Nat.lt_succ_iff_lt_or_eq.1 hj with c | rfl
      · exact hb j c
      · rintro ⟨_, q2⟩
        exact q ⟨by simp, decide_eq_true q2⟩
  · rintro (u | rr) hz
    · refine gSome ?_
      symm
      rw [Bool.eq_false_iff]
      intro q
      obtain ⟨i, h1, h2, h3⟩ := shad_iff.1 q
      exact hz i h1 ⟨h2, of_decide_eq_true h3⟩
    · obtain ⟨rfl, i, h1, h2, h3⟩ := hz
      exact gSome (shad_iff.2 ⟨i, h1, h2, decide_eq_true h3⟩).symm
theorem rotaref_Those_spec {m : Nat} (h8 : m ≤ 8) {f : Int → Option Bool} {p : Nat → Bool} (hf : ∀ s : Nat, s < 2 ^ m → f s = some (p s)) : rotaref_Those m f = some (cs ((List.range (2 ^ m)).filter p)) := by
  have h256 := pow_le8 h8
  refine Gets.eq ?_
  unfold rotaref_Those
  refine gBind (R := fun o => o = cs ((List.range (2 ^ m)).filter p)) (gFor (2 ^ m) (fun k (x : List Int × Int) => x.2 = (k : Int) ∧ x.1 = cs ((List.range k).filter p)) (Nat.zero_le _) ⟨rfl, rfl⟩ ?_) fun o ho => gSome ho
  rintro k ⟨_, _⟩ hk ⟨rfl, rfl⟩
  refine gBindE (rotaref_All_nat h8) ?_
  have hpos : 0 < 2 ^ m := Nat.pow_pos (by omega)
  refine gIte (fun h1 => ?_) fun h1 => gSome (by have e : k = 2 ^ m := by omega
                                                 subst e; rfl)
  have hk' : k < 2 ^ m := by omega
  have hfl := List.length_filter_le p (List.range k)
  rw [List.length_range] at hfl
  refine gBindE (hf k hk') ?_
  rw [List.range_succ, List.filter_append]
  refine gIte (fun q => gChk (by simp; omega) (gChk (by omega) (gSome ⟨hk', by simp, ?_⟩))) fun q => gChk (by omega) (gSome ⟨hk', by simp, ?_⟩)
  · simp [q, cs]
  · simp [q, cs]
theorem rotaref_Shadow_spec {m : Nat} (h8 : m ≤ 8) (L : List Nat) (hl : L.length ≤ 256) : rotaref_Shadow m (cs L) = some (cs ((List.range (2 ^ m)).filter (shad m fun t => decide (t ∈ L)))) := by
  unfold rotaref_Shadow
  rw [rotaref_Those_spec h8 (f := fun x0 => rotaref_Shadow_1 x0 m (cs L)) (p := shad m fun t => decide (t ∈ L)) fun s hs => rotaref_Shadow_1_spec h8 L hl hs]
  rfl
/-! ### the first so many -/
/-- The sets of k elements below a number. -/
def firstK (k B : Nat) : List Nat := (List.range B).filter fun s => decide (size s = k)
def lenB (k B : Nat) : Nat := (firstK k B).length
/-- How many are below a number. -/
def below (l : List Nat) (B : Nat) : Nat := l.foldl (fun n x => bif Nat.blt x B then n + 1 else n) 0
/-- The sets of eight elements, by their size. -/
def S8 : List (List Nat) :=
  [[0],
  [1, 2, 4, 8, 16, 32, 64, 128],
  [3, 5, 6, 9, 10, 12, 17, 18, 20, 24, 33, 34, 36, 40, 48, 65, 66, 68, 72, 80, 96, 129, 130, 132, 136, 144, 160, 192],
  [7, 11, 13, 14, 19, 21, 22, 25, 26, 28, 35, 37, 38, 41, 42, 44, 49, 50, 52, 56, 67, 69, 70, 73, 74, 76, 81, 82, 84, 88, 97, 98, 100, 104, 112, 131, 133, 134, 137, 138, 140, 145, 146, 148, 152, 161, 162, 164, 168, 176, 193, 194, 196, 200, 208, 224],
  [15, 23, 27, 29, 30, 39, 43, 45, 46, 51, 53, 54, 57, 58, 60, 71, 75, 77, 78, 83, 85, 86, 89, 90, 92, 99, 101, 102, 105, 106, 108, 113, 114, 116, 120, 135, 139, 141, 142, 147, 149, 150, 153, 154, 156, 163, 165, 166, 169, 170, 172, 177, 178, 180, 184, 195, 197, 198, 201, 202, 204, 209, 210, 212, 216, 225, 226, 228, 232, 240],
  [31, 47, 55, 59, 61, 62, 79, 87, 91, 93, 94, 103, 107, 109, 110, 115, 117, 118, 121, 122, 124, 143, 151, 155, 157, 158, 167, 171, 173, 174, 179, 181, 182, 185, 186, 188, 199, 203, 205, 206, 211, 213, 214, 217, 218, 220, 227, 229, 230, 233, 234, 236, 241, 242, 244, 248],
  [63, 95, 111, 119, 123, 125, 126, 159, 175, 183, 187, 189, 190, 207, 215, 219, 221, 222, 231, 235, 237, 238, 243, 245, 246, 249, 250, 252],
  [127, 191, 223, 239, 247, 251, 253, 254],
  [255]]
/-- Of each the set with its least lacking element. -/
def P8 : List (List Nat) :=
  [[1],
  [3, 3, 5, 9, 17, 33, 65, 129],
  [7, 7, 7, 11, 11, 13, 19, 19, 21, 25, 35, 35, 37, 41, 49, 67, 67, 69, 73, 81, 97, 131, 131, 133, 137, 145, 161, 193],
  [15, 15, 15, 15, 23, 23, 23, 27, 27, 29, 39, 39, 39, 43, 43, 45, 51, 51, 53, 57, 71, 71, 71, 75, 75, 77, 83, 83, 85, 89, 99, 99, 101, 105, 113, 135, 135, 135, 139, 139, 141, 147, 147, 149, 153, 163, 163, 165, 169, 177, 195, 195, 197, 201, 209, 225],
  [31, 31, 31, 31, 31, 47, 47, 47, 47, 55, 55, 55, 59, 59, 61, 79, 79, 79, 79, 87, 87, 87, 91, 91, 93, 103, 103, 103, 107, 107, 109, 115, 115, 117, 121, 143, 143, 143, 143, 151, 151, 151, 155, 155, 157, 167, 167, 167, 171, 171, 173, 179, 179, 181, 185, 199, 199, 199, 203, 203, 205, 211, 211, 213, 217, 227, 227, 229, 233, 241],
  [63, 63, 63, 63, 63, 63, 95, 95, 95, 95, 95, 111, 111, 111, 111, 119, 119, 119, 123, 123, 125, 159, 159, 159, 159, 159, 175, 175, 175, 175, 183, 183, 183, 187, 187, 189, 207, 207, 207, 207, 215, 215, 215, 219, 219, 221, 231, 231, 231, 235, 235, 237, 243, 243, 245, 249],
  [127, 127, 127, 127, 127, 127, 127, 191, 191, 191, 191, 191, 191, 223, 223, 223, 223, 223, 239, 239, 239, 239, 247, 247, 247, 251, 251, 253],
  [255, 255, 255, 255, 255, 255, 255, 255],
  [511]]
theorem S8_tab : ((List.range 9).map fun k => (List.range 256).filter fun s => Nat.beq (size s) k) = S8 := by kernel_rfl
theorem P8_tab : ((List.range 9).map fun k => (S8.getD k []).map fun t => t ||| (t + 1)) = P8 := by kernel_rfl
theorem shade_tab : ((List.range 8).all fun k => (List.range 257).all fun B => Nat.beq (kt 8 (k + 1) (below (S8.getD (k + 1) []) B)) (below (P8.getD k []) B)) = true := by kernel_rfl
theorem kt8_tab : ((List.range 9).all fun m => (List.range 9).all fun k => (List.range (((KT.getD m []).getD k []).length)).all fun a => Nat.beq (kt m k a) (kt 8 k a)) = true := by kernel_rfl
end Go.SH
