/-
  The law MinorsFree. Conditions: none.
-/
import Derived.Test.YtkjfccdfmjnkbaaLMf
set_option linter.unusedSimpArgs false
set_option linter.unusedVariables false
namespace Go.SH
open Go Go.AX

theorem sum_len {m : Nat} {K : List Nat} (hK : Fam m K) : ((K.length : Nat) : Int) = sumN (2 ^ m) fun x => if x ∈ K then 1 else 0 := by
  have e : K = (List.range (2 ^ m)).filter fun x => decide (x ∈ K) := hK.ext (filter_fam hK.m8 _) fun s => by
    rw [List.mem_filter, List.mem_range, decide_eq_true_eq]
    exact ⟨fun q => ⟨hK.lt s q, q⟩, fun q => q.2⟩
  have key : ∀ (p : Nat → Prop) [DecidablePred p] (n : Nat), ((((List.range n).filter fun x => decide (p x)).length : Nat) : Int) = sumN n fun x => if p x then 1 else 0 := fun p _ n => by
    induction n with
    | zero => rfl
    | succ n ih =>
      rw [List.range_succ, List.filter_append, List.length_append, Int.natCast_add, ih]
      simp only [sumN]
      by_cases c : p n <;> simp [c]
  rw [← key (fun x => x ∈ K) (2 ^ m), ← e]
theorem len_add {m s : Nat} {K B : List Nat} (hK : Fam m K) (hB : Fam m B) (hs : s < 2 ^ m) (hn : s ∉ B) (hm : ∀ x, x ∈ K ↔ x ∈ B ∨ x = s) : K.length = B.length + 1 := by
  have h1 := sum_len hK
  have h2 := sum_len hB
  have h3 : sumN (2 ^ m) (fun x => if x ∈ K then 1 else 0) = sumN (2 ^ m) (fun x => if x ∈ B then 1 else 0) + 1 := sumN_upd hs fun x _ => by
    rcases Classical.em (x = s) with c | c
    · subst c; rw [if_pos ((hm x).2 (.inr rfl)), if_neg hn, if_pos rfl]; rfl
    · rw [if_neg c, Int.add_zero]
      have : x ∈ K ↔ x ∈ B := (hm x).trans ⟨fun q => q.resolve_right c, .inl⟩
      by_cases d : x ∈ B
      · rw [if_pos d, if_pos (this.2 d)]
      · rw [if_neg d, if_neg fun q => d (this.1 q)]
  omega
theorem cnt_below {i m : Nat} (h : i ≤ m) : cnt i (2 ^ m) = 0 := by
  rw [← cnt_zero i]
  exact cnt_congr fun j hj => by rw [testBit_pow, decide_eq_false (by omega)]; simp
theorem ps_below {i m : Nat} (h : i ≤ m) : ps i (2 ^ m) = i := by
  have := ps_cnt i (2 ^ m)
  rw [cnt_below h] at this; exact this
theorem ps_top (m : Nat) : ps (m + 1) (2 ^ m) = m := by
  simp only [ps]
  rw [ps_below (Nat.le_refl m), testBit_pow]; simp
theorem pk_top {m b : Nat} (hb : b < 2 ^ (m + 1)) : pk (m + 1) (2 ^ m) b = dif b (2 ^ m) := by
  have h1 : pk (m + 1) (2 ^ m) b < 2 ^ m := by
    have := pk_lt (m + 1) (2 ^ m) b
    rw [ps_top] at this; exact this
  refine set_ext h1 (off_lt hb) fun i hi => ?_
  have := pk_at (m := m + 1) (g := 2 ^ m) (s := b) (i := i) (by omega) (by rw [testBit_pow, decide_eq_false (by omega)])
  rw [ps_below (by omega)] at this
  rw [this, testBit_dif, testBit_pow, decide_eq_false (by omega)]; simp
theorem cnt_and_off {m b : Nat} (hb : b < 2 ^ (m + 1)) : cnt (m + 1) (b &&& cpl (m + 1) (2 ^ m)) = cnt m (dif b (2 ^ m)) := by
  rw [and_cpl hb]
  exact cnt_of_lt (off_lt hb) (by omega)
theorem cnt_and_on {m b : Nat} : cnt (m + 1) (b &&& 2 ^ m) = if b.testBit m then 1 else 0 := by
  rw [cnt_up, Nat.testBit_and, testBit_pow]
  have e : dif (b &&& 2 ^ m) (2 ^ m) = 0 := Nat.eq_of_testBit_eq fun i => by
    rw [testBit_dif, Nat.testBit_and]
    cases b.testBit i <;> cases (2 ^ m).testBit i <;> simp
  rw [e, cnt_zero]; simp
section
variable {m : Nat} {B : List Nat} (h : Mat m B)
include h
theorem Mat.off_self {x : Nat} (hx : x < 2 ^ m) : dif x (2 ^ m) = x := Nat.eq_of_testBit_eq fun i => by
  have := h
  rw [testBit_dif, testBit_pow]
  rcases Classical.em (m = i) with c | c
  · subst c; simp [bit_ge hx (Nat.le_refl m)]
  · simp [c]
theorem Mat.free_del {K K' : List Nat} (hK : Fam (m + 1) K) (hm : ∀ x, x ∈ K ↔ x ∈ B ∨ ∃ b i, b ∈ B ∧ b.testBit i = true ∧ x = dif b (2 ^ i) ||| 2 ^ m)
    (hK' : Fam m K') (h' : ∀ x, x ∈ K' ↔ ∃ b, MaxK (m + 1) K (cpl (m + 1) (2 ^ m)) b ∧ x = pk (m + 1) (2 ^ m) b) : K' = B := hK'.ext h.toFam fun x => by
  rw [h' x]
  have iff := h.free_iff hK hm
  have hle : ∀ b, b ∈ K → cnt m (dif b (2 ^ m)) ≤ rk m B (2 ^ m - 1) := fun b hb => by
    obtain ⟨q1, q2, q3⟩ := (iff b).1 hb
    rw [cnt_up] at q3; omega
  constructor
  · rintro ⟨b, ⟨b1, b2⟩, rfl⟩
    obtain ⟨q1, q2, q3⟩ := (iff b).1 b1
    rw [pk_top q1]
    obtain ⟨b0, hb0⟩ := h.exists_basis
    have hb0K := (hm b0).2 (.inl hb0)
    have := b2 b0 hb0K
    rw [cnt_and_off (hK.lt b0 hb0K), cnt_and_off q1, h.off_self (h.lt b0 hb0)] at this
    exact h.ind_big q2 hb0 this
  · intro hx
    have hxK := (hm x).2 (.inl hx)
    refine ⟨x, ⟨hxK, fun b hb => ?_⟩, ?_⟩
    · rw [cnt_and_off (hK.lt b hb), cnt_and_off (hK.lt x hxK), h.off_self (h.lt x hx), h.size_full hx]
      exact hle b hb
    · rw [pk_top (hK.lt x hxK), h.off_self (h.lt x hx)]
theorem Mat.free_con (h0 : 0 < rk m B (2 ^ m - 1)) {K K' T : List Nat} (hK : Fam (m + 1) K) (hm : ∀ x, x ∈ K ↔ x ∈ B ∨ ∃ b i, b ∈ B ∧ b.testBit i = true ∧ x = dif b (2 ^ i) ||| 2 ^ m)
    (hK' : Fam m K') (h' : ∀ x, x ∈ K' ↔ ∃ b, MaxK (m + 1) K (2 ^ m) b ∧ x = pk (m + 1) (2 ^ m) b) (hT : Fam m T) (hTm : ∀ x, x ∈ T ↔ x < 2 ^ m ∧ rk m B x = cnt m x ∧ cnt m x = rk m B (2 ^ m - 1) - 1) : K' = T := hK'.ext hT fun x => by
  rw [h' x, hTm x]
  have iff := h.free_iff hK hm
  constructor
  · rintro ⟨b, ⟨b1, b2⟩, rfl⟩
    obtain ⟨q1, q2, q3⟩ := (iff b).1 b1
    rw [pk_top q1]
    obtain ⟨b0, hb0⟩ := h.exists_basis
    have hs := h.size_full hb0
    have hb0ne : b0 ≠ 0 := fun q => by subst q; rw [cnt_zero] at hs; omega
    obtain ⟨i, hi⟩ := exists_bit hb0ne
    have := b2 _ ((hm _).2 (.inr ⟨b0, i, hb0, hi, rfl⟩))
    rw [cnt_and_on, cnt_and_on, Nat.testBit_or, testBit_pow] at this
    simp at this
    have hb : b.testBit m = true := by
      cases c : b.testBit m with
      | true => rfl
      | false => rw [c] at this; simp at this
    rw [cnt_up, hb] at q3
    simp at q3
    exact ⟨off_lt q1, (h.ind_iff (off_lt q1)).1 q2, by omega⟩
  · rintro ⟨x1, x2, x3⟩
    have hxm := bit_ge x1 (Nat.le_refl m)
    have e : dif (x ||| 2 ^ m) (2 ^ m) = x := Nat.eq_of_testBit_eq fun i => by
      rw [testBit_dif, Nat.testBit_or, testBit_pow]
      rcases Classical.em (m = i) with c | c
      · subst c; simp [hxm]
      · simp [c]
    have hb : (x ||| 2 ^ m).testBit m = true := by rw [Nat.testBit_or, testBit_pow]; simp
    have hlt : x ||| 2 ^ m < 2 ^ (m + 1) := or_lt (by rw [Nat.pow_succ]; omega) (pow_lt (by omega))
    refine ⟨x ||| 2 ^ m, ⟨(iff _).2 ⟨hlt, by rw [e]; exact (h.ind_iff x1).2 x2, by rw [cnt_up, e, hb]; simp; omega⟩, fun b _ => ?_⟩, by rw [pk_top hlt, e]⟩
    rw [cnt_and_on, cnt_and_on, hb]
    cases b.testBit m <;> simp
theorem Mat.Relax_ok (a : Int) : Gets (minors_Relax m (cs B) a) (fun r => (r.2.2 ≠ 0 ∧ r.1 = 0) ∨ ∃ K, r = ((m : Int), cs K, 0) ∧ Mat m K ∧ K.length = B.length + 1) := by
  have h8 := h.m8
  have h256 := pow_le8 h8
  have hlen := h.len
  unfold minors_Relax
  rcases h.Check_set (a := a) h8 with ⟨s, rfl, hs, hc⟩ | hc
  rotate_left
  · exact gBindE ((h.right a).trans hc) (gIte (fun _ => gSome (.inl ⟨by simp, rfl⟩)) fun q => absurd (by simp) q)
  refine gBindE ((h.right s).trans hc) (gIte (fun q => absurd rfl q) fun _ => ?_)
  refine gBind (axioms_Circuits_spec m (cs B) (by rw [cs_len]; omega)) ?_
  rintro y (⟨_, m', B', e1, e2, _, e3⟩ | ⟨_, _, hn⟩)
  rotate_left
  · exact absurd ⟨m, B, rfl, rfl, h⟩ hn
  have e1' : m = m' := by omega
  have e2' : B = B' := cs_inj e2
  subst e1' e2'
  refine gBind (axioms_Hyperplanes_spec m (cs B) (by rw [cs_len]; omega)) ?_
  rintro z (⟨_, m', B', f1, f2, _, f3⟩ | ⟨_, _, hn⟩)
  rotate_left
  · exact absurd ⟨m, B, rfl, rfl, h⟩ hn
  have f1' : m = m' := by omega
  have f2' : B = B' := cs_inj f2
  subst f1' f2'
  have hl1 : ∀ p : Nat → Bool, (cs ((List.range (2 ^ m)).filter p)).length < 2 ^ 60 := fun p => by
    have := (filter_fam h8 p).len
    rw [cs_len]; omega
  rw [e3, f3]
  rw [slices_Contains_spec _ _ (hl1 _), Option.bind_some]
  by_cases c1 : Circ m B s
  rotate_left
  · have : ¬ ((s : Nat) : Int) ∈ cs ((List.range (2 ^ m)).filter fun s => Circ m B s) := fun q => by
      rw [cs_mem, List.mem_filter] at q
      exact c1 (by simpa using q.2)
    rw [if_neg (by simp [this])]
    exact gBindE rfl (gIte (fun _ => gSome (.inl ⟨by simp, rfl⟩)) fun q => absurd (.inl (by simp [this])) q)
  have m1 : ((s : Nat) : Int) ∈ cs ((List.range (2 ^ m)).filter fun s => Circ m B s) := by
    rw [cs_mem, List.mem_filter]
    exact ⟨by simpa using hs, by simpa using c1⟩
  rw [if_pos (by simp [m1]), slices_Contains_spec _ _ (hl1 _), Option.bind_some]
  by_cases c2 : Hyper m B s
  rotate_left
  · have : ¬ ((s : Nat) : Int) ∈ cs ((List.range (2 ^ m)).filter fun s => Hyper m B s) := fun q => by
      rw [cs_mem, List.mem_filter] at q
      exact c2 (by simpa using q.2)
    exact gIte (fun _ => gSome (.inl ⟨by simp, rfl⟩)) fun q => absurd (.inr (by simp [this])) q
  have m2 : ((s : Nat) : Int) ∈ cs ((List.range (2 ^ m)).filter fun s => Hyper m B s) := by
    rw [cs_mem, List.mem_filter]
    exact ⟨by simpa using hs, by simpa using c2⟩
  refine gIte (fun q => absurd q (by simp [m1, m2])) fun _ => ?_
  refine gChk (by rw [cs_len]; omega) (gChk (by rw [List.length_append, cs_len]; simp only [List.length_cons, List.length_nil]; omega) ?_)
  rw [cs_app]
  obtain ⟨K, k1, k2, k3⟩ := made_spec h8 (B ++ [s]) (fun x hx => by
    rcases List.mem_append.1 hx with q | q
    · exact h.lt x q
    · rw [List.mem_singleton.1 q]; exact hs) (by rw [List.length_append, List.length_cons, List.length_nil]; omega)
  have k4 : ∀ x, x ∈ K ↔ x ∈ B ∨ x = s := fun x => by rw [k3 x, List.mem_append, List.mem_singleton]
  refine gBindE k1 (gSome (.inr ⟨K, rfl, h.relax hs c1 c2 k2 k4, len_add k2 h.toFam hs (fun q => ?_) k4⟩))
  have q1 := (h.ind_iff hs).1 ⟨s, q, Inc.refl s⟩
  have q2 := c1.1
  omega
end

theorem free11 : minors_Free 1 [1] = some (2, [1, 2], 0) := by
  have hU := uni_mat (m := 1) (k := 1) (by omega) (by omega)
  obtain ⟨K, k1, k2, k3⟩ := hU.Free_ok (by omega)
  have e : K = [1, 2] := k2.ext (⟨by omega, by decide, fun i j hij hj => by
    have : j = 1 := by simp at hj; omega
    subst this
    have : i = 0 := by omega
    subst this; decide⟩ : Fam 2 [1, 2]) fun s => by
    rw [hU.free_iff k2 k3 s]
    have hr : rk 1 (uniL 1 1) (2 ^ 1 - 1) = 1 := by decide
    rw [hr]
    constructor
    · rintro ⟨q1, _, q3⟩
      have : ∀ s : Fin 4, cnt 2 s.val = 1 → s.val ∈ [1, 2] := by decide
      exact this ⟨s, q1⟩ q3
    · intro q
      have : s = 1 ∨ s = 2 := by simpa using q
      rcases this with rfl | rfl
      · exact ⟨by omega, ⟨1, by decide, by decide +revert⟩, by decide⟩
      · exact ⟨by omega, ⟨1, by decide, fun i hi => by
          have e : dif 2 (2 ^ 1) = 0 := by decide
          rw [e] at hi; simp at hi⟩, by decide⟩
  subst e
  exact k1
theorem rotakeep_MinorsFree_law (n : Int) (l : List Int) (a : Int) (hl : l.length ≤ 9223372036854775807) : rotakeep_MinorsFree n l a = some true := by
  refine Gets.eq ?_
  unfold rotakeep_MinorsFree
  refine gBindE free11 (gIte (fun _ => ?_) fun q => absurd (by simp) q)
  refine gBindE (SameU _) (gIte (fun q => absurd rfl q) fun _ => ?_)
  obtain ⟨c, hc, hs⟩ := axioms_Check_spec n l hl
  rcases hs with ⟨rfl, m, B, rfl, rfl, h⟩ | ⟨h0, _⟩
  rotate_left
  · have e : minors_Free n l = some (0, [], c) := by unfold minors_Free; rw [hc, Option.bind_some, if_pos h0]
    exact gBindE e (gIte (fun _ => gSome (by simp)) fun q => absurd h0 q)
  have h8 := h.m8
  have h256 := pow_le8 h8
  have hlen := h.len
  have hpos : 0 < B.length := List.length_pos_iff.2 h.ne
  rcases Classical.em (m = 8) with c8 | c8
  · subst c8
    have e : minors_Free ((8 : Nat) : Int) (cs B) = some (0, [], 2) := by
      unfold minors_Free
      rw [h.check, Option.bind_some, if_neg (by simp), if_pos (show ((8 : Nat) : Int) = 8 from rfl)]
    exact gBindE e (gIte (fun _ => gSome (by simp)) fun q => absurd (by simp) q)
  obtain ⟨K, k1, k2, k3⟩ := h.Free_ok (by omega)
  have hF := h.free_mat (by omega) k2 k3
  refine gBindE k1 (gIte (fun q => absurd rfl q) fun _ => gIte (fun q => by rw [cs_len] at q; omega) fun _ => gChk (by omega) ?_)
  have hx : (2 : Nat) ^ m < 2 ^ (m + 1) := pow_lt (by omega)
  have hck := sets_Check_nat (m := m + 1) (a := 2 ^ m) (by omega) hx
  obtain ⟨D, d1, d2, d3⟩ := hF.Delete_ok hx hck
  obtain ⟨C, c1, c2, c3⟩ := hF.Contract_ok hx hck
  rw [ps_top] at d1 d2 c1 c2
  have eD := h.free_del k2 k3 d2.toFam d3
  rw [eD] at d1
  simp only [toNat_nat, shl_nat']
  refine gBindE d1 (gBindE c1 (gChk (by rw [cs_len]; exact hpos) ?_))
  have hg : B.getD 0 0 ∈ B := mem_getD.2 ⟨0, hpos, rfl⟩
  rw [cs_get]
  refine gBindE (rotaref_Size_nat _) ?_
  have hsz : size (B.getD 0 0) = rk m B (2 ^ m - 1) := by rw [size_of_lt (h.lt _ hg) h8, h.size_full hg]
  rw [hsz]
  have hb := h.rk_size (2 ^ m - 1)
  have hb2 := cnt_le m (2 ^ m - 1)
  generalize hr : rk m B (2 ^ m - 1) = r at hb
  refine gChk (by omega) ?_
  have em : max (0 : Int) ((r : Int) - 1) = ((r - 1 : Nat) : Int) := by omega
  rw [em]
  obtain ⟨T, t1, t2, t3⟩ := h.Truncate_ok (t := r - 1) (by omega)
  refine gBindE t1 ?_
  rw [if_pos (by simp)]
  refine gBindE (SameMU _ _) ?_
  have eY : ∃ y8, (if ((¬ (((((m : Int), cs B, (0 : Int)).2.2 ≠ 0 ∨ ((m : Int), cs C, (0 : Int)).2.2 ≠ 0) ∨ ((m : Int), cs T, (0 : Int)).2.2 ≠ 0) ∨ ¬ (true = true))) ∧ 0 < (r : Int)) then rotalaw_SameMatroid ((m : Int), cs C, (0 : Int)).1 ((m : Int), cs C, (0 : Int)).2.1 ((m : Int), cs T, (0 : Int)).1 ((m : Int), cs T, (0 : Int)).2.1 else some false) = some y8 ∧ (0 < r → y8 = true) := by
    rcases Nat.eq_zero_or_pos r with q | q
    · exact ⟨false, by rw [if_neg (by omega)], fun z => by omega⟩
    · have eC := h.free_con (by omega) k2 k3 c2.toFam c3 t2 (by rw [hr]; exact t3)
      subst eC
      exact ⟨true, by rw [if_pos ⟨by simp, by omega⟩]; exact SameMU _ _, fun _ => rfl⟩
  obtain ⟨y8, e8, hy8⟩ := eY
  refine gBindE e8 ?_
  have hy : ¬ ((((((m : Int), cs B, (0 : Int)).2.2 ≠ 0 ∨ ((m : Int), cs C, (0 : Int)).2.2 ≠ 0) ∨ ((m : Int), cs T, (0 : Int)).2.2 ≠ 0) ∨ ¬ (true = true)) ∨ (0 < (r : Int) ∧ ¬ (y8 = true))) := by
    simp
    intro q
    exact hy8 (by omega)
  rw [if_pos hy]
  refine gBindE hF.check (gIte (fun q => absurd q (fun z => z.elim hy fun z => z rfl)) fun _ => ?_)
  refine gBind (h.Relax_ok a) ?_
  rintro y (⟨y1, y2⟩ | ⟨R, rfl, hR, hRl⟩)
  · exact gIte (fun _ => gSome (by simp [y2])) fun q => absurd y1 q
  · refine gIte (fun q => absurd rfl q) fun _ => gBindE hR.check (gChk (fun _ => by rw [cs_len]; omega) (gSome ?_))
    simp only [cs_len, hRl]
    simp
end Go.SH
