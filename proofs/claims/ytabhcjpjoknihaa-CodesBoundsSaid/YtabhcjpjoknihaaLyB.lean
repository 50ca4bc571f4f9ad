/-
  Bounds of codes, plainly: sums over all words of a code; PLOTKIN, HAMMING. Conditions: none.
-/
import Derived.Test.YtabhcjpjoknihaaLyA
set_option linter.unusedSimpArgs false
set_option linter.unusedVariables false
set_option linter.unusedSectionVars false
namespace Go.SH
open Go Go.AX

section
variable {p : Nat} [NeZero p]
/-- What all words have together that are u and a sum of rows from the i-th on. -/
def cS (M : Nat → Nat → Fin p) : Nat → Nat → (Nat → Fin p) → ((Nat → Fin p) → Nat) → Nat
  | 0, _, u, F => F u
  | r + 1, i, u, F => nS p fun c => cS M r (i + 1) (fun j => u j + cF p (c : Int) * M i j) F
variable {M : Nat → Nat → Fin p}
theorem cS_add (F G : (Nat → Fin p) → Nat) : ∀ r i u, cS M r i u (fun x => F x + G x) = cS M r i u F + cS M r i u G
  | 0, _, _ => rfl
  | r + 1, i, u => by simp only [cS]; rw [← nS_add]; exact nS_congr fun c _ => cS_add F G r _ _
theorem cS_const (b : Nat) : ∀ r i u, cS M r i u (fun _ => b) = p ^ r * b
  | 0, _, _ => by simp [cS]
  | r + 1, i, u => by
    simp only [cS]
    rw [nS_congr fun c _ => cS_const b r _ _, nS_const, Nat.pow_succ, Nat.mul_comm (p ^ r) p, Nat.mul_assoc]
theorem cS_nS (n : Nat) (G : Nat → (Nat → Fin p) → Nat) : ∀ r i u, cS M r i u (fun x => nS n fun j => G j x) = nS n fun j => cS M r i u (G j)
  | 0, _, _ => rfl
  | r + 1, i, u => by simp only [cS]; rw [nS_swap]; exact nS_congr fun c _ => cS_nS n G r _ _
def csu (c : Fin p) (a : Nat → Fin p) (l : Nat) : Fin p := if l = 0 then c else a (l - 1)
/-- The word that these so many rows from the i-th on make. -/
def cx (M : Nat → Nat → Fin p) (r i : Nat) (a : Nat → Fin p) (j : Nat) : Fin p := Sm r fun l => a l * M (i + l) j
theorem cx_succ (r i : Nat) (a : Nat → Fin p) (j : Nat) : cx M (r + 1) i a j = a 0 * M i j + cx M r (i + 1) (fun l => a (l + 1)) j := by
  unfold cx
  rw [Sm_sk (k := 0) _ (by omega)]
  refine congrArg (fun x => a 0 * M i j + x) (Sm_congr fun l _ => ?_)
  have : sk 0 l = l + 1 := by unfold sk; rw [if_neg (by omega)]
  rw [this, show i + (l + 1) = i + 1 + l by omega]
theorem cx_csu (r i : Nat) (c : Fin p) (a : Nat → Fin p) (j : Nat) : cx M (r + 1) i (csu c a) j = c * M i j + cx M r (i + 1) a j := by
  rw [cx_succ]
  rfl
theorem as1 (u c m x : Fin p) : u + (c * m + x) = u + c * m + x := by grind
theorem as2 (c m x : Fin p) (h : c = 0) : c * m + x = x := by grind
theorem as3 (u : Fin p) : u + 0 = u := by grind
theorem as4 (u : Fin p) (c m : Fin p) (h : m = 0) : u + c * m = u := by grind
theorem as5 (c m : Fin p) (h : c = 0) : (0 : Fin p) + c * m = 0 := by grind
theorem as6 (c m x : Fin p) : c * m + x = 0 + c * m + x := by grind
theorem cS_low {d : Nat} {F : (Nat → Fin p) → Nat} : ∀ r i u, (∀ a, d ≤ F fun j => u j + cx M r i a j) → d * p ^ r ≤ cS M r i u F
  | 0, i, u, h => by
    have := h fun _ => 0
    have e : (fun j => u j + cx M 0 i (fun _ => 0) j) = u := funext fun j => as3 _
    rw [e] at this
    simpa [cS] using this
  | r + 1, i, u, h => by
    simp only [cS]
    have := nS_le (n := p) (f := fun _ => d * p ^ r) fun c _ => cS_low r (i + 1) (fun j => u j + cF p (c : Int) * M i j) (F := F) (d := d) fun a => by
      have := h (csu (cF p (c : Int)) a)
      have e : (fun j => u j + cx M (r + 1) i (csu (cF p (c : Int)) a) j) = fun j => u j + cF p (c : Int) * M i j + cx M r (i + 1) a j := funext fun j => by rw [cx_csu, as1]
      rwa [e] at this
    rw [nS_const] at this
    rw [Nat.pow_succ, ← Nat.mul_assoc, Nat.mul_comm _ p]
    exact this
theorem cS_low0 {d : Nat} {F : (Nat → Fin p) → Nat} : ∀ r i, (∀ a, (∃ l, l < r ∧ a l ≠ 0) → d ≤ F (cx M r i a)) → d * p ^ r ≤ cS M r i (fun _ => 0) F + d
  | 0, i, h => by simp
  | r + 1, i, h => by
    have p0 : 0 < p := ppos
    simp only [cS]
    obtain ⟨q, hq⟩ : ∃ q, p = q + 1 := ⟨p - 1, by omega⟩
    have h0 := cS_low0 (d := d) (F := F) r (i + 1) fun a ⟨l, hl, ha⟩ => by
      have := h (csu 0 a) ⟨l + 1, by omega, by simpa [csu] using ha⟩
      have e : cx M (r + 1) i (csu 0 a) = cx M r (i + 1) a := funext fun j => by rw [cx_csu, as2 _ _ _ rfl]
      rwa [e] at this
    have z : cF p ((0 : Nat) : Int) = 0 := by simpa using cF_zero (p := p)
    have e0 : (fun j => (0 : Fin p) + cF p ((0 : Nat) : Int) * M i j) = fun _ => 0 := funext fun j => as5 _ _ z
    have hs : nS q (fun _ => d * p ^ r) ≤ nS q fun c => cS M r (i + 1) (fun j => (0 : Fin p) + cF p ((c + 1 : Nat) : Int) * M i j) F := nS_le fun c hc => cS_low r (i + 1) _ fun a => by
      have hne : cF p ((c + 1 : Nat) : Int) ≠ 0 := fun e => by
        have := (cF_iff (p := p) (t := c + 1) (by omega) 0).1 e
        simp at this
      have := h (csu (cF p ((c + 1 : Nat) : Int)) a) ⟨0, by omega, by simpa [csu] using hne⟩
      have e : cx M (r + 1) i (csu (cF p ((c + 1 : Nat) : Int)) a) = fun j => 0 + cF p ((c + 1 : Nat) : Int) * M i j + cx M r (i + 1) a j := funext fun j => by rw [cx_csu, as6]
      rwa [e] at this
    rw [nS_const] at hs
    have hp1 : nS p (fun c => cS M r (i + 1) (fun j => (0 : Fin p) + cF p (c : Int) * M i j) F) = cS M r (i + 1) (fun _ => 0) F + nS q fun c => cS M r (i + 1) (fun j => (0 : Fin p) + cF p ((c + 1 : Nat) : Int) * M i j) F := by
      rw [show nS p _ = nS (q + 1) _ from congrArg (fun n => nS n _) hq, nS_first, e0]
    rw [hp1, Nat.pow_succ]
    have : d * (p ^ r * p) = q * (d * p ^ r) + d * p ^ r := by
      rw [← Nat.mul_assoc, Nat.mul_comm _ p, hq, Nat.succ_mul]
    omega

/-! PLOTKIN. -/
theorem col_zero (j : Nat) : ∀ r i u, (∀ l, l < r → M (i + l) j = 0) → cS M r i u (fun x => if x j ≠ 0 then 1 else 0) = p ^ r * if u j ≠ 0 then 1 else 0
  | 0, _, u, _ => by simp [cS]
  | r + 1, i, u, h => by
    simp only [cS]
    rw [nS_congr (g := fun _ => p ^ r * if u j ≠ 0 then 1 else 0) fun c _ => by
      rw [col_zero j r (i + 1) _ fun l hl => by rw [show i + 1 + l = i + (l + 1) by omega]; exact h (l + 1) (by omega)]
      rw [as4 _ _ _ (show M i j = 0 from h 0 (by omega))], nS_const, Nat.pow_succ, Nat.mul_comm (p ^ r) p, Nat.mul_assoc]
theorem col_some (hp : Fld p) (j : Nat) : ∀ r i u, (∃ l, l < r ∧ M (i + l) j ≠ 0) → p * cS M r i u (fun x => if x j ≠ 0 then 1 else 0) = (p - 1) * p ^ r
  | 0, _, u, ⟨l, hl, _⟩ => by omega
  | r + 1, i, u, h => by
    simp only [cS]
    by_cases c : ∃ l, l < r ∧ M (i + 1 + l) j ≠ 0
    · rw [← nS_mul, nS_congr fun t _ => col_some hp j r (i + 1) _ c, nS_const, Nat.pow_succ]
      rw [Nat.mul_comm (p ^ r) p, Nat.mul_left_comm]
    · have hz : ∀ l, l < r → M (i + 1 + l) j = 0 := fun l hl => Classical.byContradiction fun q => c ⟨l, hl, q⟩
      have h0 : M i j ≠ 0 := by
        obtain ⟨l, hl, q⟩ := h
        rcases Nat.eq_zero_or_pos l with e | e
        · subst e; exact q
        · refine absurd (hz (l - 1) (by omega)) ?_
          rw [show i + 1 + (l - 1) = i + l by omega]; exact q
      rw [nS_congr fun t _ => col_zero j r (i + 1) _ hz, nS_mul, line_cnt' hp, if_neg h0, Nat.pow_succ]
      rw [Nat.mul_comm (p ^ r) (p - 1), Nat.mul_comm (p ^ r) p, Nat.mul_left_comm]
theorem plotkin (hp : Fld p) {n k d : Nat} (h : ∀ a, (∃ l, l < k ∧ a l ≠ 0) → d ≤ wt n (cx M k 0 a)) : p * (d * p ^ k) ≤ n * ((p - 1) * p ^ k) + p * d := by
  have h1 := cS_low0 (M := M) (d := d) (F := wt n) k 0 h
  have h2 : p * cS M k 0 (fun _ => 0) (wt n) ≤ n * ((p - 1) * p ^ k) := by
    have e : cS M k 0 (fun _ => 0) (wt n) = nS n fun j => cS M k 0 (fun _ => 0) fun x => if x j ≠ 0 then 1 else 0 := cS_nS n (fun j x => if x j ≠ 0 then 1 else 0) k 0 _
    rw [e, ← nS_mul, ← nS_const]
    refine nS_le fun j _ => ?_
    by_cases c : ∃ l, l < k ∧ M (0 + l) j ≠ 0
    · rw [col_some hp j k 0 _ c]; exact Nat.le_refl _
    · rw [col_zero j k 0 _ fun l hl => Classical.byContradiction fun q => c ⟨l, hl, q⟩]
      simp
  have h3 := Nat.mul_le_mul_left p h1
  rw [Nat.mul_add] at h3
  omega

/-! HAMMING. -/
theorem cS_pos {F : (Nat → Fin p) → Nat} : ∀ r i u, 0 < cS M r i u F → ∃ a, 0 < F fun j => u j + cx M r i a j
  | 0, i, u, h => ⟨fun _ => 0, by
    have e : (fun j => u j + cx M 0 i (fun _ => 0) j) = u := funext fun j => as3 _
    rw [e]; exact h⟩
  | r + 1, i, u, h => by
    simp only [cS] at h
    obtain ⟨c, _, hc⟩ := nS_pos h
    obtain ⟨a, ha⟩ := cS_pos r (i + 1) _ hc
    refine ⟨csu (cF p (c : Int)) a, ?_⟩
    have e : (fun j => u j + cx M (r + 1) i (csu (cF p (c : Int)) a) j) = fun j => u j + cF p (c : Int) * M i j + cx M r (i + 1) a j := funext fun j => by rw [cx_csu, as1]
    rw [e]; exact ha
theorem wt_tri (n : Nat) (v x y : Nat → Fin p) : wt n (fun j => x j - y j) ≤ wt n (fun j => v j - x j) + wt n (fun j => v j - y j) := by
  unfold wt
  rw [← nS_add]
  refine nS_le fun j _ => ?_
  by_cases a : v j - x j = 0
  · by_cases b : v j - y j = 0
    · have : x j - y j = 0 := by grind
      simp [this]
    · split <;> split <;> simp_all
  · split <;> simp [a]
theorem cx_sub (r i : Nat) (a b : Nat → Fin p) (j : Nat) : cx M r i (fun l => a l - b l) j = cx M r i a j - cx M r i b j := by
  unfold cx
  rw [← Sm_sub]
  exact Sm_congr fun l _ => by grind
theorem as7 (u c1 m x c2 y : Fin p) : (u + c1 * m + x) - (u + c2 * m + y) = (c1 * m + x) - (c2 * m + y) := by grind
theorem as8 (a b : Fin p) (h : a - b = 0) : a = b := by grind
theorem near_one {n t : Nat} (v : Nat → Fin p) : ∀ r i u, (∀ a, (∃ l, l < r ∧ a l ≠ 0) → 2 * t < wt n (cx M r i a)) → cS M r i u (fun x => if wt n (fun j => v j - x j) < t + 1 then 1 else 0) ≤ 1
  | 0, i, u, h => by simp only [cS]; split <;> omega
  | r + 1, i, u, h => by
    simp only [cS]
    refine nS_le1 (fun c _ => near_one v r (i + 1) _ fun a ⟨l, hl, ha⟩ => ?_) fun c1 c2 h1 h2 q1 q2 => ?_
    · have := h (csu 0 a) ⟨l + 1, by omega, by simpa [csu] using ha⟩
      have e : cx M (r + 1) i (csu 0 a) = cx M r (i + 1) a := funext fun j => by rw [cx_csu, as2 _ _ _ rfl]
      rwa [e] at this
    · obtain ⟨a1, w1⟩ := cS_pos _ _ _ q1
      obtain ⟨a2, w2⟩ := cS_pos _ _ _ q2
      refine Classical.byContradiction fun hne => ?_
      have k1 : wt n (fun j => v j - (u j + cF p (c1 : Int) * M i j + cx M r (i + 1) a1 j)) < t + 1 := by
        refine Classical.byContradiction fun q => ?_
        rw [if_neg q] at w1; omega
      have k2 : wt n (fun j => v j - (u j + cF p (c2 : Int) * M i j + cx M r (i + 1) a2 j)) < t + 1 := by
        refine Classical.byContradiction fun q => ?_
        rw [if_neg q] at w2; omega
      have k3 := wt_tri n v (fun j => u j + cF p (c1 : Int) * M i j + cx M r (i + 1) a1 j) (fun j => u j + cF p (c2 : Int) * M i j + cx M r (i + 1) a2 j)
      have k4 := h (fun l => csu (cF p (c1 : Int)) a1 l - csu (cF p (c2 : Int)) a2 l) ⟨0, by omega, fun e => by
        have e : cF p (c1 : Int) - cF p (c2 : Int) = 0 := e
        have := (cF_iff h1 _).1 (as8 _ _ e)
        rw [cF_lt h2] at this
        exact hne this⟩
      have e : cx M (r + 1) i (fun l => csu (cF p (c1 : Int)) a1 l - csu (cF p (c2 : Int)) a2 l) = fun j => (u j + cF p (c1 : Int) * M i j + cx M r (i + 1) a1 j) - (u j + cF p (c2 : Int) * M i j + cx M r (i + 1) a2 j) := funext fun j => by
        rw [cx_sub, cx_csu, cx_csu, as7]
      rw [e] at k4
      omega
def ud (v : Nat → Fin p) (n : Nat) (c : Fin p) (j : Nat) : Fin p := if j = n then c else v j
/-- What all words of n places have together. -/
def vS : Nat → ((Nat → Fin p) → Nat) → Nat
  | 0, F => F fun _ => 0
  | n + 1, F => nS p fun c => vS n fun v => F (ud v n (cF p (c : Int)))
theorem vS_le {F G : (Nat → Fin p) → Nat} : ∀ n, (∀ v, F v ≤ G v) → vS n F ≤ vS n G := fun n => by
  induction n generalizing F G with
  | zero => intro h; exact h _
  | succ n ih => intro h; exact nS_le fun c _ => ih fun v => h _
theorem vS_const (b : Nat) : ∀ n, vS (p := p) n (fun _ => b) = p ^ n * b
  | 0 => by simp [vS]
  | n + 1 => by simp only [vS]; rw [vS_const b n, nS_const, Nat.pow_succ, Nat.mul_comm (p ^ n) p, Nat.mul_assoc]
theorem vS_nS (m : Nat) : ∀ n (H : Nat → (Nat → Fin p) → Nat), vS n (fun v => nS m fun c => H c v) = nS m fun c => vS n (H c)
  | 0, H => rfl
  | n + 1, H => by
    simp only [vS]
    rw [nS_congr (g := fun c => nS m fun d => vS n fun v => H d (ud v n (cF p (c : Int)))) fun c _ => vS_nS m n fun d v => H d (ud v n (cF p (c : Int))), nS_swap]
theorem cS_vS (n : Nat) (G : (Nat → Fin p) → (Nat → Fin p) → Nat) : ∀ r i u, cS M r i u (fun x => vS n fun v => G v x) = vS n fun v => cS M r i u (G v)
  | 0, _, _ => rfl
  | r + 1, i, u => by
    simp only [cS]
    rw [vS_nS]
    exact nS_congr fun c _ => cS_vS n G r _ _
def ch : Nat → Nat → Nat
  | 0, 0 => 1
  | 0, _ + 1 => 0
  | n + 1, 0 => 1
  | n + 1, k + 1 => ch n k + ch n (k + 1)
theorem ch_zero (n : Nat) : ch n 0 = 1 := by cases n <;> rfl
/-- How many words have fewer than t places that are not nought. -/
def bl (q n t : Nat) : Nat := nS t fun i => ch n i * q ^ i
theorem bl_zero (q t : Nat) : bl q 0 (t + 1) = 1 := by
  unfold bl
  rw [nS_first, nS_congr (g := fun _ => 0) fun i _ => by simp [ch], nS_const]
  simp [ch]
theorem bl_succ (q n t : Nat) : bl q (n + 1) (t + 1) = bl q n (t + 1) + q * bl q n t := by
  unfold bl
  rw [nS_first, nS_first (fun i => ch n i * q ^ i), ← nS_mul, nS_congr (g := fun i => ch n (i + 1) * q ^ (i + 1) + q * (ch n i * q ^ i)) fun i _ => by
    show (ch n i + ch n (i + 1)) * q ^ (i + 1) = _
    rw [Nat.add_mul, Nat.add_comm, Nat.pow_succ, Nat.mul_comm (q ^ i) q, Nat.mul_left_comm (ch n i)], nS_add, ch_zero, ch_zero]
  omega
theorem wt_succ (n : Nat) (u : Nat → Fin p) : wt (n + 1) u = wt n u + if u n ≠ 0 then 1 else 0 := rfl
theorem wt_ud (n : Nat) (v x : Nat → Fin p) (c : Fin p) : wt n (fun j => ud v n c j - x j) = wt n fun j => v j - x j :=
  nS_congr fun j hj => by
    show (if ud v n c j - x j ≠ 0 then 1 else 0) = if v j - x j ≠ 0 then 1 else 0
    rw [show ud v n c j = v j from if_neg (by omega)]
theorem ball : ∀ (n t : Nat) (x : Nat → Fin p), vS n (fun v => if wt n (fun j => v j - x j) < t then 1 else 0) = bl (p - 1) n t
  | n, 0, x => by
    rw [show (fun v : Nat → Fin p => if wt n (fun j => v j - x j) < 0 then 1 else 0) = fun _ => 0 from funext fun v => if_neg (by omega), vS_const]
    rfl
  | 0, t + 1, x => by
    rw [bl_zero]
    simp only [vS]
    rw [if_pos (by show 0 < t + 1; omega)]
  | n + 1, t + 1, x => by
    simp only [vS]
    rw [nS_congr (g := fun c => (if c = (x n).val then bl (p - 1) n (t + 1) else 0) + if c = (x n).val then 0 else bl (p - 1) n t) fun c hc => by
      by_cases q : c = (x n).val
      · rw [if_pos q, if_pos q, Nat.add_zero, ← ball n (t + 1) x]
        congr 1
        funext v
        have e : ud v n (cF p (c : Int)) n - x n = 0 := by
          rw [show ud v n (cF p (c : Int)) n = cF p (c : Int) from if_pos rfl, (cF_iff hc _).2 q]
          grind
        have key : wt (n + 1) (fun j => ud v n (cF p (c : Int)) j - x j) = wt n (fun j => v j - x j) + 0 := by
          rw [wt_succ, wt_ud]
          exact congrArg (fun z => wt n (fun j => v j - x j) + z) (if_neg fun h => h e)
        rw [key, Nat.add_zero]
      · rw [if_neg q, if_neg q, Nat.zero_add, ← ball n t x]
        congr 1
        funext v
        have e : ud v n (cF p (c : Int)) n - x n ≠ 0 := by
          rw [show ud v n (cF p (c : Int)) n = cF p (c : Int) from if_pos rfl]
          exact fun h => q ((cF_iff hc _).1 (as8 _ _ h))
        have key : wt (n + 1) (fun j => ud v n (cF p (c : Int)) j - x j) = wt n (fun j => v j - x j) + 1 := by
          rw [wt_succ, wt_ud]
          exact congrArg (fun z => wt n (fun j => v j - x j) + z) (if_pos e)
        rw [key]
        by_cases c2 : wt n (fun j => v j - x j) < t
        · rw [if_pos c2, if_pos (by omega)]
        · rw [if_neg c2, if_neg (by omega)], nS_add, nS_one _ (x n).isLt, nS_but _ (x n).isLt, bl_succ]
theorem hamming {n k t : Nat} (h : ∀ a, (∃ l, l < k ∧ a l ≠ 0) → 2 * t < wt n (cx M k 0 a)) : p ^ k * bl (p - 1) n (t + 1) ≤ p ^ n := by
  have h1 : cS M k 0 (fun _ => 0) (fun x => vS n fun v => if wt n (fun j => v j - x j) < t + 1 then 1 else 0) = p ^ k * bl (p - 1) n (t + 1) := by
    rw [show (fun x : Nat → Fin p => vS n fun v => if wt n (fun j => v j - x j) < t + 1 then 1 else 0) = fun _ => bl (p - 1) n (t + 1) from funext fun x => ball n (t + 1) x, cS_const]
  rw [← h1, cS_vS n (fun v x => if wt n (fun j => v j - x j) < t + 1 then 1 else 0)]
  have := vS_le (F := fun v => cS M k 0 (fun _ => 0) fun x => if wt n (fun j => v j - x j) < t + 1 then 1 else 0) (G := fun _ => 1) n fun v => near_one v k 0 _ h
  rw [vS_const, Nat.mul_one] at this
  exact this
end
end Go.SH
