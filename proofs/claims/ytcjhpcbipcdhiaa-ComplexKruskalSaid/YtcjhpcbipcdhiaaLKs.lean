/-
  'shade' as the program has it; the law SetsKruskal. Conditions: at most eight elements.
-/
import Derived.Test.YtcjhpcbipcdhiaaLKL
import Derived.Test.YtcjhpcbipcdhiaaLA
import Derived.Test.YtcjhpcbipcdhiaaSkSetsKruskal
set_option linter.unusedSimpArgs false
set_option linter.unusedVariables false
namespace Go.SH
open Go Go.AX

theorem mem_firstK {k B s : Nat} : s ∈ firstK k B ↔ s < B ∧ size s = k := by unfold firstK; rw [List.mem_filter, List.mem_range, decide_eq_true_eq]
theorem below_eq (l : List Nat) (B : Nat) : below l B = (l.filter fun x => decide (x < B)).length := by
  unfold below
  have key : ∀ (l : List Nat) (n : Nat), l.foldl (fun n x => bif Nat.blt x B then n + 1 else n) n = n + (l.filter fun x => decide (x < B)).length := by
    intro l
    induction l with
    | nil => intro n; simp
    | cons x l ih =>
      intro n
      rw [List.foldl_cons, ih, List.filter_cons]
      by_cases c : x < B
      · have : Nat.blt x B = true := Nat.ble_eq_true_of_le c
        rw [this]
        simp [c]; omega
      · have : Nat.blt x B = false := by
          cases h : Nat.blt x B
          · rfl
          · exact absurd (Nat.le_of_ble_eq_true h) c
        rw [this]
        simp [c]
  rw [key, Nat.zero_add]
theorem S8_get {k : Nat} (hk : k ≤ 8) : S8.getD k [] = (List.range 256).filter fun s => Nat.beq (size s) k := by
  rw [← S8_tab, List.getD_eq_getElem?_getD, List.getElem?_map, List.getElem?_range (by omega)]
  rfl
theorem P8_get {k : Nat} (hk : k ≤ 8) : P8.getD k [] = ((List.range 256).filter fun s => Nat.beq (size s) k).map fun t => t ||| (t + 1) := by
  rw [← S8_get hk, ← P8_tab, List.getD_eq_getElem?_getD, List.getElem?_map, List.getElem?_range (by omega)]
  rfl
theorem beq_dec (a b : Nat) : Nat.beq a b = decide (a = b) := by
  cases h : Nat.beq a b
  · symm
    rw [decide_eq_false_iff_not]
    intro q
    subst q
    rw [Nat.beq_refl] at h
    cases h
  · symm; rw [decide_eq_true_eq]; exact Nat.eq_of_beq_eq_true h
/-- A filter that takes only what is below. -/
theorem filter_below {p : Nat → Bool} {m n : Nat} (h8 : m ≤ 8) (hn : n ≤ 8) (h : ∀ s, p s = true → (s < 2 ^ m ↔ s < 2 ^ n)) : (List.range (2 ^ m)).filter p = (List.range (2 ^ n)).filter p :=
  (filter_fam h8 p).ext (filter_fam hn p) fun s => by
    rw [List.mem_filter, List.mem_filter, List.mem_range, List.mem_range]
    exact ⟨fun q => ⟨(h s q.2).1 q.1, q.2⟩, fun q => ⟨(h s q.2).2 q.1, q.2⟩⟩
theorem low_lack_tab : ∀ t : Fin 256, ∃ j : Fin 9, t.val.testBit j.val = false ∧ t.val ||| (t.val + 1) = t.val ||| 2 ^ j.val ∧ ∀ i : Fin 9, t.val.testBit i.val = false → t.val ||| (t.val + 1) ≤ t.val ||| 2 ^ i.val := of_decide_eq_true (by kernel_rfl)
theorem low_lack {t : Nat} (ht : t < 256) : ∃ j, j < 9 ∧ t.testBit j = false ∧ t ||| (t + 1) = t ||| 2 ^ j ∧ ∀ i, i < 9 → t.testBit i = false → t ||| (t + 1) ≤ t ||| 2 ^ i := by
  obtain ⟨j, h1, h2, h3⟩ := low_lack_tab ⟨t, ht⟩
  exact ⟨j.val, j.isLt, h1, h2, fun i hi => h3 ⟨i, hi⟩⟩
theorem pow_le_or (t j : Nat) : 2 ^ j ≤ t ||| 2 ^ j := by rw [Nat.or_comm]; exact Nat.left_le_or
theorem shad_first {m k B t : Nat} (h8 : m ≤ 8) (hB : B ≤ 2 ^ m) (ht : t < 2 ^ m) : shad m (fun s => decide (s ∈ firstK (k + 1) B)) t = true ↔ size t = k ∧ t ||| (t + 1) < B := by
  have h256 := pow_le8 h8
  obtain ⟨j, j1, j2, j3, j4⟩ := low_lack (show t < 256 by omega)
  have up : ∀ i, i < m → t.testBit i = false → size (t ||| 2 ^ i) = size t + 1 := fun i hi hb => cnt_add (by omega) hb
  rw [shad_iff]
  constructor
  · rintro ⟨i, hi, h1, h2⟩
    obtain ⟨h3, h4⟩ := mem_firstK.1 (of_decide_eq_true h2)
    have := up i hi h1
    have := j4 i (by omega) h1
    exact ⟨by omega, by omega⟩
  · rintro ⟨h1, h2⟩
    have hjm : j < m := by
      rcases Nat.lt_or_ge j m with c | c
      · exact c
      · have := Nat.pow_le_pow_right (show 0 < 2 by omega) c
        have := pow_le_or t j
        omega
    refine ⟨j, hjm, j2, decide_eq_true (mem_firstK.2 ⟨by omega, ?_⟩)⟩
    rw [up j hjm j2]; omega
theorem firstK_eq {k B n : Nat} (hn : B ≤ n) : firstK k B = (List.range n).filter fun a => decide (a < B) && Nat.beq (size a) k := by
  unfold firstK
  induction n with
  | zero => have : B = 0 := by omega
            subst this; rfl
  | succ n ih =>
    rcases Nat.lt_or_ge n B with c | c
    · have e : B = n + 1 := by omega
      rw [e]
      refine List.filter_congr fun x hx => ?_
      rw [beq_dec, decide_eq_true (List.mem_range.1 hx), Bool.true_and]
    · rw [List.range_succ, List.filter_append, ← ih c]
      have : decide (n < B) = false := by simp; omega
      simp [this]
theorem firstK_fam {m k B : Nat} (h8 : m ≤ 8) (hB : B ≤ 2 ^ m) : Fam m (firstK k B) := by rw [firstK_eq hB]; exact filter_fam h8 _
theorem unif_mem {m k : Nat} (h8 : m ≤ 8) {L : List Nat} (h : ∀ s, s ∈ L → size s = k) : Unif m k fun s => decide (s ∈ L) := fun s hs q => by
  rw [← h s (of_decide_eq_true q), size_of_lt hs h8]
theorem kt_eight {m k a : Nat} (h8 : m ≤ 8) (hk : k ≤ 8) (ha : a ≤ ck m k) : kt m k a = kt 8 k a := by
  have h1 := ck_tab ⟨m, by omega⟩ ⟨k, by omega⟩
  simp only at h1
  rcases Nat.eq_zero_or_pos a with rfl | h0
  · rw [kt_zero, kt_zero]
  have h2 := List.all_eq_true.1 (List.all_eq_true.1 (List.all_eq_true.1 kt8_tab m (List.mem_range.2 (by omega))) k (List.mem_range.2 (by omega))) a (List.mem_range.2 (by omega))
  exact Nat.eq_of_beq_eq_true h2
/-- The shadow of the first sets, by the table. -/
theorem kt_first {m k B : Nat} (h8 : m ≤ 8) (hk : k < m) (hB : B ≤ 2 ^ m) : kt m (k + 1) (lenB (k + 1) B) = ((List.range (2 ^ m)).filter (shad m fun s => decide (s ∈ firstK (k + 1) B))).length ∧ lenB (k + 1) B ≤ ck m (k + 1) := by
  have h256 := pow_le8 h8
  have h0 := List.all_eq_true.1 (List.all_eq_true.1 shade_tab k (List.mem_range.2 (by omega))) B (List.mem_range.2 (by omega))
  have h1 := Nat.eq_of_beq_eq_true h0
  rw [below_eq, below_eq, S8_get (by omega), P8_get (by omega), List.filter_filter, List.filter_map, List.length_map, List.filter_filter] at h1
  have e1 : ((List.range 256).filter fun a => decide (a < B) && Nat.beq (size a) (k + 1)) = firstK (k + 1) B := (firstK_eq (by omega)).symm
  rw [e1] at h1
  have e2 : ((List.range 256).filter fun a => (((fun x => decide (x < B)) ∘ fun t => t ||| (t + 1)) a) && Nat.beq (size a) k) = (List.range (2 ^ m)).filter (shad m fun s => decide (s ∈ firstK (k + 1) B)) := by
    have := filter_below (p := fun a => (((fun x => decide (x < B)) ∘ fun t => t ||| (t + 1)) a) && Nat.beq (size a) k) (m := 8) (n := m) (Nat.le_refl 8) h8 fun s hs => by
      simp only [Function.comp, Bool.and_eq_true, decide_eq_true_eq] at hs
      have : s ≤ s ||| (s + 1) := Nat.left_le_or
      constructor <;> intro _ <;> omega
    refine this.trans (List.filter_congr fun x hx => ?_)
    rw [Bool.eq_iff_iff, shad_first h8 hB (List.mem_range.1 hx)]
    simp only [Function.comp, Bool.and_eq_true, decide_eq_true_eq, beq_dec]
    exact ⟨fun q => ⟨q.2, q.1⟩, fun q => ⟨q.2, q.1⟩⟩
  rw [e2] at h1
  have hle : lenB (k + 1) B ≤ ck m (k + 1) := by
    have h3 := (unif_mem h8 (L := firstK (k + 1) B) fun s hs => (mem_firstK.1 hs).2).le
    rw [fam_num (firstK_fam h8 hB)] at h3
    unfold lenB
    omega
  exact ⟨(kt_eight h8 (by omega) hle).trans h1, hle⟩
theorem lenB_succ (k B : Nat) : lenB k (B + 1) = lenB k B + if size B = k then 1 else 0 := by
  unfold lenB firstK
  rw [List.range_succ, List.filter_append, List.length_append]
  by_cases c : size B = k <;> simp [c]
theorem lenB_full {m k : Nat} (h8 : m ≤ 8) : lenB k (2 ^ m) = ck m k := by
  have h1 := fam_num (firstK_fam (m := m) (k := k) h8 (Nat.le_refl _))
  have h2 : num m (fun s => decide (s ∈ firstK k (2 ^ m))) = num m fun s => decide (cnt m s = k) := sumN_congr fun s hs => by
    have : (s ∈ firstK k (2 ^ m)) ↔ cnt m s = k := by
      rw [mem_firstK, size_of_lt hs h8]
      exact ⟨fun q => q.2, fun q => ⟨hs, q⟩⟩
    simp [this]
  unfold ck lenB
  omega
theorem shade_spec {m k a : Nat} (h8 : m ≤ 8) (hk : k < m) (ha : a ≤ ck m (k + 1)) : rotakeep_shade m ((k + 1 : Nat) : Int) a = some ((kt m (k + 1) a : Nat) : Int) := by
  have h256 := pow_le8 h8
  have hck : ck m (k + 1) ≤ 256 := by
    rw [← lenB_full h8]
    exact (firstK_fam (k := k + 1) h8 (Nat.le_refl _)).len
  refine Gets.eq ?_
  unfold rotakeep_shade
  refine gBind (R := fun o => ∃ B, B ≤ 2 ^ m ∧ o = cs (firstK (k + 1) B) ∧ lenB (k + 1) B = a) (gFor (2 ^ m) (fun B (x : List Int × Int) => x.2 = (B : Int) ∧ x.1 = cs (firstK (k + 1) B) ∧ lenB (k + 1) B ≤ a) (Nat.zero_le _) ⟨rfl, rfl, Nat.zero_le _⟩ ?_) ?_
  · rintro B ⟨_, _⟩ hB ⟨rfl, rfl, hle⟩
    simp only [toNat_nat, shl_nat', cs_len]
    refine gChk (fun _ => by omega) (gIte (fun q => ?_) fun q => gSome ⟨B, hB, rfl, ?_⟩)
    · have hlt : (firstK (k + 1) B).length < a := by omega
      have hB' : B < 2 ^ m := by omega
      refine gBindE (rotaref_Size_nat B) ?_
      have e : firstK (k + 1) (B + 1) = firstK (k + 1) B ++ if size B = k + 1 then [B] else [] := by
        unfold firstK
        rw [List.range_succ, List.filter_append]
        by_cases c : size B = k + 1 <;> simp [c]
      have hs := lenB_succ (k + 1) B
      have hlt' : lenB (k + 1) B < a := hlt
      refine gIte (fun c => gChk (by rw [List.length_append, cs_len]; simp only [List.length_cons, List.length_nil]; omega) (gChk (by omega) (gSome ⟨hB', by simp, ?_, ?_⟩))) fun c => gChk (by omega) (gSome ⟨hB', by simp, ?_, ?_⟩)
      · rw [e, if_pos (by omega), cs_app]
      · rw [hs, if_pos (by omega)]; omega
      · rw [e, if_neg (by omega), List.append_nil]
      · rw [hs, if_neg (by omega)]; omega
    · rcases Nat.lt_or_ge B (2 ^ m) with c | c
      · have : ¬ (firstK (k + 1) B).length < a := fun d => q ⟨by omega, by omega⟩
        have : lenB (k + 1) B = (firstK (k + 1) B).length := rfl
        omega
      · have : B = 2 ^ m := by omega
        subst this
        rw [lenB_full h8] at hle ⊢
        omega
  · rintro o ⟨B, hB, rfl, hl⟩
    refine gBindE (rotaref_Shadow_spec h8 _ (firstK_fam h8 hB).len) (gSome ?_)
    have := (kt_first h8 hk hB).1
    rw [hl] at this
    rw [this, cs_len]
theorem Choose_ok {m k : Nat} (h8 : m ≤ 8) (hk : k ≤ m) : sets_Choose m k = some (cs (firstK k (2 ^ m)), 0) := by
  have h256 := pow_le8 h8
  refine Gets.eq ?_
  unfold sets_Choose
  refine gIte (fun q => by omega) fun _ => ?_
  simp only [toNat_nat, shl_nat']
  refine gChk (by omega) (gBind (R := fun o => o = cs (firstK k (2 ^ m))) (gFor (2 ^ m) (fun B (x : List Int × Int) => x.2 = (B : Int) ∧ x.1 = cs (firstK k B)) (Nat.zero_le _) ⟨rfl, rfl⟩ ?_) fun o ho => gSome (by rw [ho]))
  rintro B ⟨_, _⟩ hB ⟨rfl, rfl⟩
  refine gIte (fun h1 => ?_) fun h1 => gSome (by have e : B = 2 ^ m := by omega
                                                 subst e; rfl)
  have hB' : B < 2 ^ m := by omega
  have hl := (firstK_fam (k := k) h8 hB).len
  refine gChk (by omega) (gBindE (show bits_OnesCount (B : Int) = some ((size B : Nat) : Int) by simp [bits_OnesCount, oc_size (show B < 256 by omega)]) ?_)
  have e : firstK k (B + 1) = firstK k B ++ if size B = k then [B] else [] := by
    unfold firstK
    rw [List.range_succ, List.filter_append]
    by_cases c : size B = k <;> simp [c]
  refine gIte (fun c => gChk (by rw [List.length_append, cs_len]; simp only [List.length_cons, List.length_nil]; omega) (gSome ⟨hB', by simp, ?_⟩)) fun c => gSome ⟨hB', by simp, ?_⟩
  · rw [e, if_pos (by omega), cs_app]
  · rw [e, if_neg (by omega), List.append_nil]
theorem Pick_spec (k : Int) (n : Nat) (hn : 0 < n) (h1 : -9223372036854775808 ≤ k) (h2 : k ≤ 9223372036854775807) : Gets (rotaref_Pick k n) (fun r => ∃ a : Nat, r = a ∧ a < n) := by
  unfold rotaref_Pick
  have t : ∀ x : Int, 0 ≤ x → ∃ a : Nat, Int.tmod x n = a ∧ a < n := fun x hx => by
    have q1 := Int.tmod_nonneg (n : Int) hx
    have q2 := Int.tmod_lt_of_pos x (show (0 : Int) < n by omega)
    obtain ⟨a, ha⟩ := Int.eq_ofNat_of_zero_le q1
    exact ⟨a, ha, by omega⟩
  exact gIte (fun q => gChk (by omega) (gChk (by omega) (gSome (t _ (by omega))))) fun q => gChk (by omega) (gSome (t _ (by omega)))
/-- A list without doubles, put in order, is a family. -/
theorem sort_fam {m : Nat} (h8 : m ≤ 8) {V : List Nat} (hn : V.Nodup) (hlt : ∀ s, s ∈ V → s < 2 ^ m) : ∃ K, sortL (cs V) = cs K ∧ Fam m K ∧ (∀ s, s ∈ K ↔ s ∈ V) ∧ K.length = V.length := by
  have hp : List.Perm (sortL (cs V)) (cs V) := List.mergeSort_perm _ _
  have hl : (sortL (cs V)).length = V.length := by rw [sortL_len, cs_len]
  have h0 : ∀ k, k < (sortL (cs V)).length → 0 ≤ (sortL (cs V)).getD k 0 := fun k hk => by
    have : (sortL (cs V)).getD k 0 ∈ sortL (cs V) := by
      rw [List.getD_eq_getElem?_getD, List.getElem?_eq_getElem hk]; exact List.getElem_mem hk
    obtain ⟨a, _, ha⟩ := List.mem_map.1 (hp.mem_iff.1 this)
    omega
  have hK := cs_of h0
  refine ⟨_, hK, ?_, ?_, by rw [List.length_map, hl]⟩
  · have hnod : (sortL (cs V)).Nodup := by
      rw [hp.nodup_iff]
      unfold cs
      exact List.Pairwise.map _ (fun a b hab q => hab (by omega)) hn
    have hs := sortL_sorted (cs V)
    refine ⟨h8, fun s hs' => ?_, fun i j hij hj => ?_⟩
    · obtain ⟨a, h1, h2⟩ := List.mem_map.1 hs'
      obtain ⟨b, h3, h4⟩ := List.mem_map.1 (hp.mem_iff.1 h1)
      have := hlt b h3
      omega
    · rw [List.length_map] at hj
      have hi : i < (sortL (cs V)).length := by omega
      have h1 := List.pairwise_iff_getElem.1 hs i j hi hj hij
      have h2 := List.pairwise_iff_getElem.1 hnod i j hi hj hij
      have g1 := h0 i hi
      have g2 := h0 j hj
      simp only [List.getD_eq_getElem?_getD, List.getElem?_map, List.getElem?_eq_getElem hi, List.getElem?_eq_getElem hj, Option.map_some, Option.getD_some] at g1 g2 ⊢
      omega
  · intro s
    rw [← cs_mem, ← hK, hp.mem_iff, cs_mem]
theorem nodup_num {m : Nat} {V : List Nat} (hn : V.Nodup) (hlt : ∀ s, s ∈ V → s < 2 ^ m) (h8 : m ≤ 8) : V.length ≤ 256 := by
  obtain ⟨K, _, hK, _, hl⟩ := sort_fam h8 hn hlt
  have := hK.len
  omega
theorem rotakeep_SetsKruskal_law (n k : Int) (picks : List Int) (hb : ∀ x, x ∈ picks → -9223372036854775808 ≤ x ∧ x ≤ 9223372036854775807) (hl : picks.length ≤ 9223372036854775807) : rotakeep_SetsKruskal n k picks = some true := by
  refine Gets.eq ?_
  unfold rotakeep_SetsKruskal
  have f3 : Fam 2 [3] := by
    refine ⟨by omega, fun s hs => ?_, fun i j hij hj => ?_⟩
    · have := List.mem_singleton.1 hs; omega
    · simp at hj; omega
  have f12 : Fam 2 [1, 2] := by
    refine ⟨by omega, fun s hs => ?_, fun i j hij hj => ?_⟩
    · simp at hs; omega
    · simp at hj
      have h1 : i = 0 := by omega
      have h2 : j = 1 := by omega
      subst h1 h2; decide
  refine gBind (show Gets (sets_Shadow 2 [3]) _ from ShadowK f3) ?_
  rintro ⟨_, _⟩ ⟨rfl, K, rfl, hK, hKm⟩
  have eK : K = [1, 2] := hK.ext f12 fun s => by
    rw [hKm]
    constructor
    · rintro ⟨s', i, h1, h2, rfl⟩
      have := List.mem_singleton.1 h1
      subst this
      have hi : i < 2 := bit_lt (s := 3) (m := 2) (by omega) h2
      have : i = 0 ∨ i = 1 := by omega
      rcases this with rfl | rfl <;> decide
    · intro q
      simp at q
      rcases q with rfl | rfl
      · exact ⟨3, 1, by simp, by decide, by decide⟩
      · exact ⟨3, 0, by simp, by decide, by decide⟩
  subst eK
  refine gIte (fun _ => gBindE (SameB _) (gIte (fun q => absurd rfl q) fun _ => ?_)) fun q => absurd (by simp) q
  rcases Classical.em (∃ m k' : Nat, n = m ∧ k = k' ∧ m ≤ 8 ∧ k' ≤ m) with hok | hbad
  rotate_left
  · have hc : sets_Choose n k = some ([], 1) := by
      unfold sets_Choose
      rw [if_pos]
      rcases Classical.em (((n < 0 ∨ 8 < n) ∨ k < 0) ∨ n < k) with q | q
      · exact q
      · exact absurd ⟨n.toNat, k.toNat, by omega, by omega, by omega, by omega⟩ hbad
    exact gBindE hc (gIte (fun _ => gSome (by simp)) fun q => absurd (by simp) q)
  obtain ⟨m, k', rfl, rfl, h8, hkm⟩ := hok
  refine gBindE (Choose_ok h8 hkm) (gIte (fun q => gSome (by simp)) fun q => ?_)
  have hk0 : k' ≠ 0 := fun e => q (.inr (by omega))
  obtain ⟨k, rfl⟩ : ∃ j, k' = j + 1 := ⟨k' - 1, by omega⟩
  have hfl := (firstK_fam (k := k + 1) h8 (Nat.le_refl (2 ^ m))).len
  have hpos : 0 < (firstK (k + 1) (2 ^ m)).length := by
    have h1 : 2 ^ (k + 1) - 1 < 2 ^ m := by
      have := Nat.pow_le_pow_right (show 0 < 2 by omega) hkm
      have : 0 < 2 ^ (k + 1) := Nat.pow_pos (by omega)
      omega
    have h2 : size (2 ^ (k + 1) - 1) = k + 1 := by
      have : ∀ k : Fin 9, size (2 ^ k.val - 1) = k.val := of_decide_eq_true (by kernel_rfl)
      exact this ⟨k + 1, by omega⟩
    have := mem_firstK.2 ⟨h1, h2⟩
    exact List.length_pos_of_mem this
  refine gBind (R := fun o => ∃ V : List Nat, o = cs V ∧ V.Nodup ∧ ∀ s, s ∈ V → s ∈ firstK (k + 1) (2 ^ m)) (gFor picks.length (fun i (x : List Int × Int) => x.2 = (i : Int) ∧ ∃ V : List Nat, x.1 = cs V ∧ V.Nodup ∧ ∀ s, s ∈ V → s ∈ firstK (k + 1) (2 ^ m)) (Nat.zero_le _) ⟨rfl, [], rfl, List.nodup_nil, fun s hs => by simp at hs⟩ ?_) ?_
  · rintro i ⟨_, _⟩ hi ⟨rfl, V, rfl, hV, hVm⟩
    simp only [toNat_nat, cs_len]
    refine gIte (fun h1 => gChk (by omega) ?_) fun h1 => gSome ⟨V, rfl, hV, hVm⟩
    have hi' : i < picks.length := by omega
    have hm : picks.getD i 0 ∈ picks := by rw [List.getD_eq_getElem?_getD, List.getElem?_eq_getElem hi']; exact List.getElem_mem hi'
    have hVl := nodup_num (m := m) hV (fun s hs => (mem_firstK.1 (hVm s hs)).1) h8
    refine gBind (Pick_spec _ _ hpos (hb _ hm).1 (hb _ hm).2) ?_
    rintro _ ⟨a, rfl, ha⟩
    simp only [toNat_nat, cs_get]
    have hmem := mem_getD.2 ⟨a, ha, rfl⟩
    refine gChk (by omega) (gBindE (slices_Contains_spec _ _ (by simp; omega)) (gIte (fun q => ?_) fun q => gSome ⟨hi', by simp, V, rfl, hV, hVm⟩))
    have hnew : (firstK (k + 1) (2 ^ m)).getD a 0 ∉ V := fun c => q (decide_eq_true ((cs_mem _ _).2 c))
    refine gChk (by rw [List.length_append, cs_len]; simp only [List.length_cons, List.length_nil]; omega) (gSome ⟨hi', by simp, V ++ [(firstK (k + 1) (2 ^ m)).getD a 0], cs_app _ _, ?_, fun s hs => ?_⟩)
    · rw [List.nodup_append]
      refine ⟨hV, by simp, fun x hx y hy e => ?_⟩
      have := List.mem_singleton.1 hy
      subst this e
      exact hnew hx
    · rcases List.mem_append.1 hs with c | c
      · exact hVm s c
      · rw [List.mem_singleton.1 c]; exact hmem
  · rintro _ ⟨V, rfl, hV, hVm⟩
    have hlt : ∀ s, s ∈ V → s < 2 ^ m := fun s hs => (mem_firstK.1 (hVm s hs)).1
    have hVl := nodup_num hV hlt h8
    obtain ⟨L, hL, hLf, hLm, hLl⟩ := sort_fam h8 hV hlt
    refine gChk (by simp; omega) ?_
    rw [hL]
    refine gBind (ShadowK hLf) ?_
    rintro ⟨_, _⟩ ⟨rfl, K, rfl, hK, hKm⟩
    have hU : Unif m (k + 1) fun s => decide (s ∈ L) := unif_mem h8 fun s hs => (mem_firstK.1 (hVm s ((hLm s).1 hs))).2
    have h1 := kk h8 k _ hU
    have h2 := hU.le
    rw [fam_num hLf] at h1 h2
    rw [shadow_num hLf hK hKm] at h1
    rw [if_pos rfl, cs_len]
    refine gBindE (shade_spec h8 (by omega) (by omega)) (gSome ?_)
    rw [show ((L.length : Int)).toNat = L.length from rfl] at h1
    exact decide_eq_true ⟨rfl, by rw [cs_len]; exact h1⟩
end Go.SH
