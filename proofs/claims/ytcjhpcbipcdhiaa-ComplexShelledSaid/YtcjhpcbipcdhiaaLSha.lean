/-
  Shellings: the restriction of each facet, and the numbers h. Conditions: at most eight elements.
-/
import Derived.Test.YtcjhpcbipcdhiaaLCb
set_option linter.unusedSimpArgs false
set_option linter.unusedVariables false
namespace Go.SH
open Go Go.AX

/-- A shelling: each facet meets the former ones in sets that lie in such as lack one element. -/
def Shell (m : Nat) (O : List Nat) : Prop := ∀ i, i < O.length → ∀ j, j < i → ∃ k, k < i ∧ cnt m (O.getD i 0 &&& O.getD k 0) + 1 = cnt m (O.getD i 0) ∧ Inc (O.getD i 0 &&& O.getD j 0) (O.getD k 0)
/-- The restriction of a facet. -/
def IsRes (O : List Nat) (i R : Nat) : Prop := ∀ x, R.testBit x = true ↔ (O.getD i 0).testBit x = true ∧ ∃ j, j < i ∧ O.getD j 0 &&& O.getD i 0 = dif (O.getD i 0) (2 ^ x)
theorem IsRes.inc {O : List Nat} {i R : Nat} (h : IsRes O i R) : Inc R (O.getD i 0) := fun x hx => ((h x).1 hx).1
theorem shell_first {O : List Nat} {i s R : Nat} (hR : IsRes O i R) (hs : Inc s (O.getD i 0)) (hn : ∀ j, j < i → ¬ Inc s (O.getD j 0)) : Inc R s := by
  intro x hx
  obtain ⟨h1, j, hj, he⟩ := (hR x).1 hx
  cases q : s.testBit x
  · exfalso
    refine hn j hj fun y hy => ?_
    have h2 := hs y hy
    have h3 : (dif (O.getD i 0) (2 ^ x)).testBit y = true := by
      rw [testBit_dif, h2, testBit_pow]
      by_cases e : x = y
      · subst e; rw [q] at hy; cases hy
      · simp [e]
    rw [← he, Nat.testBit_and, Bool.and_eq_true] at h3
    exact h3.1
  · rfl
theorem shell_only {m : Nat} {O : List Nat} {i j s R : Nat} (hlt : O.getD i 0 < 2 ^ m) (h : Shell m O) (hi : i < O.length) (hj : j < i) (hR : IsRes O i R) (hs : Inc s (O.getD i 0)) (hr : Inc R s) : ¬ Inc s (O.getD j 0) := by
  intro hsj
  obtain ⟨k, hk, hc, hin⟩ := h i hi j hj
  have hnot : ¬ Inc (O.getD i 0) (O.getD k 0) := fun q => by
    have := (sub_iff_and _ _).2 q
    rw [this] at hc; omega
  obtain ⟨x, x1, x2⟩ := not_inc hnot
  have hx := cnt_dif hlt x1
  have hI : Inc (O.getD i 0 &&& O.getD k 0) (dif (O.getD i 0) (2 ^ x)) := fun y hy => by
    rw [Nat.testBit_and, Bool.and_eq_true] at hy
    rw [testBit_dif, hy.1, testBit_pow]
    by_cases e : x = y
    · subst e; rw [x2] at hy; cases hy.2
    · simp [e]
  have he := inc_eq_of_cnt hI (dif_lt hlt) (by omega)
  have hxR : R.testBit x = true := (hR x).2 ⟨x1, k, hk, by rw [Nat.and_comm]; exact he⟩
  have hxs := hr x hxR
  have := hin x (by rw [Nat.testBit_and, x1, hsj x hxs]; rfl)
  rw [x2] at this; cases this
theorem least_of {P : Nat → Prop} : ∀ n, P n → ∃ k, k ≤ n ∧ P k ∧ ∀ j, j < k → ¬ P j := by
  intro n
  induction n using Nat.strongRecOn with
  | ind n ih =>
    intro hn
    rcases Classical.em (∃ j, j < n ∧ P j) with ⟨j, h1, h2⟩ | q
    · obtain ⟨k, k1, k2, k3⟩ := ih j h1 h2
      exact ⟨k, by omega, k2, k3⟩
    · exact ⟨n, Nat.le_refl _, hn, fun j hj hp => q ⟨j, hj, hp⟩⟩

/-! ### how many lie between -/
def betB : Nat → Nat → Nat → Nat → Bool
  | 0, _, _, _ => true
  | m + 1, R, F, s => betB m R F s && (!R.testBit m || s.testBit m) && (!s.testBit m || F.testBit m)
theorem betB_iff {R F s : Nat} : ∀ m, betB m R F s = true ↔ ∀ x, x < m → (R.testBit x = true → s.testBit x = true) ∧ (s.testBit x = true → F.testBit x = true)
  | 0 => by simp [betB]
  | m + 1 => by
    simp only [betB, Bool.and_eq_true, Bool.or_eq_true, Bool.not_eq_true']
    rw [betB_iff m]
    constructor
    · rintro ⟨⟨h1, h2⟩, h3⟩ x hx
      rcases Nat.lt_succ_iff_lt_or_eq.1 hx with c | rfl
      · exact h1 x c
      · exact ⟨fun q => by rcases h2 with h2 | h2 <;> simp_all, fun q => by rcases h3 with h3 | h3 <;> simp_all⟩
    · intro h
      refine ⟨⟨fun x hx => h x (by omega), ?_⟩, ?_⟩
      · cases q : R.testBit m
        · exact .inl rfl
        · exact .inr ((h m (by omega)).1 q)
      · cases q : s.testBit m
        · exact .inl rfl
        · exact .inr ((h m (by omega)).2 q)
theorem betB_add {m R F s : Nat} (hs : s < 2 ^ m) : betB m R F (2 ^ m + s) = betB m R F s := by
  rw [Bool.eq_iff_iff, betB_iff, betB_iff]
  have e : ∀ x, x < m → (2 ^ m + s).testBit x = s.testBit x := fun x hx => by
    rw [add_bit hs]
    have : decide (x = m) = false := by simp; omega
    rw [this, Bool.false_or]
  constructor
  · intro h x hx; have := h x hx; rw [e x hx] at this; exact this
  · intro h x hx; rw [e x hx]; exact h x hx
theorem cnt_addp {m s : Nat} (hs : s < 2 ^ m) : cnt m (2 ^ m + s) = cnt m s := cnt_congr fun x hx => by
  rw [add_bit hs]
  have : decide (x = m) = false := by simp; omega
  rw [this, Bool.false_or]
def cB (m R F i : Nat) : Int := sumN (2 ^ m) fun s => if betB m R F s = true ∧ cnt m s = i then 1 else 0
theorem cB_succ (m R F i : Nat) : cB (m + 1) R F i = (if R.testBit m = true then 0 else cB m R F i) + (if F.testBit m = true then (if i = 0 then 0 else cB m R F (i - 1)) else 0) := by
  unfold cB
  rw [sumN_two]
  congr 1
  · by_cases hR : R.testBit m = true
    · rw [if_pos hR, sumN_congr (h := fun _ => (0 : Int)) fun s hs => ?_, sumN_zero]
      rw [if_neg]
      simp only [betB, cnt, bit_ge hs (Nat.le_refl m), hR]
      simp
    · rw [if_neg hR]
      refine sumN_congr fun s hs => ?_
      simp only [betB, cnt, bit_ge hs (Nat.le_refl m), hR]
      simp
  · by_cases hF : F.testBit m = true
    · rw [if_pos hF]
      have eb : ∀ s, s < 2 ^ m → (2 ^ m + s).testBit m = true := fun s hs => by rw [add_bit hs]; simp
      by_cases h0 : i = 0
      · rw [if_pos h0, sumN_congr (h := fun _ => (0 : Int)) fun s hs => ?_, sumN_zero]
        rw [if_neg]
        simp only [cnt, eb s hs, h0]
        simp
      · rw [if_neg h0]
        refine sumN_congr fun s hs => ?_
        simp only [betB, cnt, betB_add hs, cnt_addp hs, eb s hs, hF]
        simp only [Bool.not_true, Bool.or_true, Bool.and_true, if_pos]
        by_cases q : betB m R F s = true ∧ cnt m s = i - 1
        · rw [if_pos q, if_pos ⟨q.1, by omega⟩]
        · rw [if_neg q, if_neg fun q2 => q ⟨q2.1, by have := q2.2; omega⟩]
    · rw [if_neg hF, sumN_congr (h := fun _ => (0 : Int)) fun s hs => ?_, sumN_zero]
      have eb : (2 ^ m + s).testBit m = true := by rw [add_bit hs]; simp
      rw [if_neg]
      simp only [betB, eb, hF]
      simp
def gB (a b i : Nat) : Nat := if a ≤ i then bin (b - a) (i - a) else 0
theorem bin_zero (n : Nat) : bin n 0 = 1 := by cases n <;> rfl
theorem cB_val : ∀ (m R F i : Nat), (∀ x, x < m → R.testBit x = true → F.testBit x = true) → cB m R F i = ((gB (cnt m R) (cnt m F) i : Nat) : Int)
  | 0, R, F, i, _ => by
    unfold cB gB
    simp only [cnt, Nat.pow_zero, sumN, betB]
    cases i <;> simp [bin]
  | m + 1, R, F, i, h => by
    have ih := fun i => cB_val m R F i fun x hx => h x (by omega)
    have hle : cnt m R ≤ cnt m F := cnt_mono fun x hx q => h x (by omega) q
    rw [cB_succ, ih, ih]
    simp only [cnt]
    by_cases hR : R.testBit m = true
    · have hF := h m (by omega) hR
      rw [if_pos hR, if_pos hF, if_pos hR, if_pos hF]
      unfold gB
      by_cases h0 : i = 0
      · rw [if_pos h0, if_neg (by omega)]; rfl
      · rw [if_neg h0]
        by_cases c : cnt m R ≤ i - 1
        · rw [if_pos c, if_pos (by omega), show cnt m F + 1 - (cnt m R + 1) = cnt m F - cnt m R by omega, show i - (cnt m R + 1) = i - 1 - cnt m R by omega]; simp
        · rw [if_neg c, if_neg (by omega)]; rfl
    · rw [if_neg hR, if_neg hR]
      by_cases hF : F.testBit m = true
      · rw [if_pos hF, if_pos hF]
        unfold gB
        by_cases h0 : i = 0
        · rw [if_pos h0]
          by_cases c : cnt m R ≤ i
          · rw [if_pos c, if_pos (by omega), show i - cnt m R = 0 by omega, show i - (cnt m R + 0) = 0 by omega, bin_zero, bin_zero]; rfl
          · rw [if_neg c, if_neg (by omega)]; rfl
        · rw [if_neg h0]
          by_cases c : cnt m R ≤ i - 1
          · rw [if_pos c, if_pos (by omega), if_pos (by omega), show cnt m F + 1 - (cnt m R + 0) = (cnt m F - cnt m R) + 1 by omega, show i - (cnt m R + 0) = (i - 1 - cnt m R) + 1 by omega, show i - cnt m R = (i - 1 - cnt m R) + 1 by omega]
            simp only [bin]; omega
          · rw [if_neg c]
            by_cases c2 : cnt m R ≤ i
            · rw [if_pos c2, if_pos (by omega), show i - cnt m R = 0 by omega, show i - (cnt m R + 0) = 0 by omega, bin_zero, bin_zero]; rfl
            · rw [if_neg c2, if_neg (by omega)]; rfl
      · rw [if_neg hF, if_neg hF]; simp
theorem bin_inv : ∀ d j k : Fin 9, j.val ≤ d.val → k.val ≤ d.val → sumN (k.val + 1) (fun i => sg (k.val - i) * ((gB j.val d.val i : Nat) * (bin (d.val - i) (k.val - i) : Nat))) = if j.val = k.val then 1 else 0 := of_decide_eq_true (by kernel_rfl)
theorem fN_sum (m : Nat) (L : List Nat) (i : Nat) : ((fN m L i : Nat) : Int) = sumN (2 ^ m) (fun s => if cnt m s = i ∧ Face L s then 1 else 0) := by
  unfold fN facesL
  rw [List.countP_filter, ← Cx.f_zero.sumN_countP']
  refine sumN_congr fun s _ => ?_
  by_cases q : cnt m s = i ∧ Face L s
  · rw [if_pos q, if_pos (by simp [q])]
  · rw [if_neg q, if_neg (by simpa using fun a b => q ⟨a, b⟩)]

/-! ### each face once -/
theorem shell_once {m : Nat} {L O : List Nat} (hp : O.Perm L) (hlt : ∀ s, s ∈ L → s < 2 ^ m) (hS : Shell m O) {R : Nat → Nat} (hR : ∀ i, i < O.length → IsRes O i (R i)) {s : Nat} (hf : Face L s) :
    ∃ t0, t0 < O.length ∧ ∀ t, t < O.length → (Inc (R t) s ∧ Inc s (O.getD t 0) ↔ t = t0) := by
  obtain ⟨f, f1, f2⟩ := hf
  obtain ⟨n, n1, rfl⟩ := mem_getD.1 (hp.mem_iff.2 f1)
  obtain ⟨t0, t1, t2, t3⟩ := least_of (P := fun t => Inc s (O.getD t 0)) n f2
  refine ⟨t0, by omega, fun t ht => ⟨fun ⟨h1, h2⟩ => ?_, fun e => ?_⟩⟩
  · rcases Nat.lt_or_ge t t0 with c | c
    · exact absurd h2 (t3 t c)
    · rcases Nat.lt_or_ge t0 t with c2 | c2
      · exact absurd t2 (shell_only (hlt _ (hp.mem_iff.1 (mem_getD.2 ⟨t, ht, rfl⟩))) hS ht c2 (hR t ht) h2 h1)
      · omega
  · subst e
    exact ⟨shell_first (hR t ht) t2 t3, t2⟩
theorem h_shell {m : Nat} {L O : List Nat} (h8 : m ≤ 8) (hlt : ∀ s, s ∈ L → s < 2 ^ m) (hp : O.Perm L) (hpu : ∀ s, s ∈ L → cnt m s = dimL m L) (hS : Shell m O) {R : Nat → Nat} (hR : ∀ i, i < O.length → IsRes O i (R i)) {k : Nat} (hk : k ≤ dimL m L) :
    hN m L k = sumN O.length (fun t => if cnt m (R t) = k then 1 else 0) := by
  have hd := dim_le m L
  have hF : ∀ t, t < O.length → O.getD t 0 ∈ L := fun t ht => hp.mem_iff.1 (mem_getD.2 ⟨t, ht, rfl⟩)
  have hf : ∀ i, ((fN m L i : Nat) : Int) = sumN O.length (fun t => ((gB (cnt m (R t)) (dimL m L) i : Nat) : Int)) := fun i => by
    rw [fN_sum]
    have e1 : ∀ t, t < O.length → ((gB (cnt m (R t)) (dimL m L) i : Nat) : Int) = sumN (2 ^ m) (fun s => if (Inc (R t) s ∧ Inc s (O.getD t 0)) ∧ cnt m s = i then 1 else 0) := fun t ht => by
      have h1 := hF t ht
      rw [← hpu _ h1, ← cB_val m (R t) (O.getD t 0) i fun x _ q => (hR t ht).inc x q]
      refine sumN_congr fun s hs => ?_
      have hRlt : R t < 2 ^ m := (hR t ht).inc.lt (hlt _ h1)
      have key : betB m (R t) (O.getD t 0) s = true ↔ Inc (R t) s ∧ Inc s (O.getD t 0) := by
        rw [betB_iff]
        exact ⟨fun q => ⟨fun x hx => (q x (bit_lt hRlt hx)).1 hx, fun x hx => (q x (bit_lt hs hx)).2 hx⟩, fun q x _ => ⟨q.1 x, q.2 x⟩⟩
      by_cases q : betB m (R t) (O.getD t 0) s = true ∧ cnt m s = i
      · rw [if_pos q, if_pos ⟨key.1 q.1, q.2⟩]
      · rw [if_neg q, if_neg fun q2 => q ⟨key.2 q2.1, q2.2⟩]
    rw [sumN_congr e1, sumN_swap]
    refine sumN_congr fun s hs => ?_
    by_cases q : cnt m s = i ∧ Face L s
    · obtain ⟨t0, t1, t2⟩ := shell_once hp hlt hS hR q.2
      rw [if_pos q, sumN_congr (h := fun t => if t = t0 then (1 : Int) else 0) fun t ht => ?_, sumN_single _ _ _ t1]
      by_cases e : t = t0
      · rw [if_pos ⟨(t2 t ht).2 e, q.1⟩, if_pos e]
      · rw [if_neg fun z => e ((t2 t ht).1 z.1), if_neg e]
    · rw [if_neg q, sumN_congr (h := fun _ => (0 : Int)) fun t ht => ?_, sumN_zero]
      exact if_neg fun z => q ⟨z.2, _, hF t ht, z.1.2⟩
  unfold hN
  have e2 : ∀ i, i < k + 1 → hT m L k i = sumN O.length (fun t => sg (k - i) * ((gB (cnt m (R t)) (dimL m L) i : Nat) * (bin (dimL m L - i) (k - i) : Nat))) := fun i hi => by
    unfold hT
    rw [hf i, sumN_mul]
    congr 1
    rw [Int.mul_comm, ← sumN_mul]
    exact sumN_congr fun t _ => Int.mul_comm _ _
  rw [sumN_congr e2, sumN_swap]
  refine sumN_congr fun t ht => ?_
  have hc : cnt m (R t) ≤ dimL m L := by
    have := cnt_le_of_inc (m := m) (hR t ht).inc
    rw [hpu _ (hF t ht)] at this
    exact this
  exact bin_inv ⟨dimL m L, by omega⟩ ⟨cnt m (R t), by omega⟩ ⟨k, by omega⟩ hc hk
end Go.SH
