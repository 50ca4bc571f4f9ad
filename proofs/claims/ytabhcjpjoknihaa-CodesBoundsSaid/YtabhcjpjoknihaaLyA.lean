/-
  Bounds of codes, plainly: sums over numbers, over words of a code, over all words; GRIESMER, PLOTKIN, HAMMING. Conditions: none.
-/
import Derived.Test.YtabhcjpjoknihaaLyF
set_option linter.unusedSimpArgs false
set_option linter.unusedVariables false
set_option linter.unusedSectionVars false
namespace Go.SH
open Go Go.AX

def nS : Nat → (Nat → Nat) → Nat
  | 0, _ => 0
  | n + 1, f => nS n f + f n
theorem nS_congr {f g : Nat → Nat} : ∀ {n : Nat}, (∀ i, i < n → f i = g i) → nS n f = nS n g
  | 0, _ => rfl
  | n + 1, h => by rw [nS, nS, nS_congr fun i hi => h i (by omega), h n (by omega)]
theorem nS_le {f g : Nat → Nat} : ∀ {n : Nat}, (∀ i, i < n → f i ≤ g i) → nS n f ≤ nS n g
  | 0, _ => Nat.le_refl _
  | n + 1, h => by
    have := nS_le (f := f) (g := g) (n := n) fun i hi => h i (by omega)
    have := h n (by omega)
    simp only [nS]; omega
theorem nS_add (f g : Nat → Nat) : ∀ n, nS n (fun i => f i + g i) = nS n f + nS n g
  | 0 => rfl
  | n + 1 => by rw [nS, nS, nS, nS_add f g n]; omega
theorem nS_mul (c : Nat) (f : Nat → Nat) : ∀ n, nS n (fun i => c * f i) = c * nS n f
  | 0 => rfl
  | n + 1 => by rw [nS, nS, nS_mul c f n, Nat.mul_add]
theorem nS_const (c : Nat) : ∀ n, nS n (fun _ => c) = n * c
  | 0 => by simp [nS]
  | n + 1 => by rw [nS, nS_const c n, Nat.succ_mul]
theorem nS_swap (f : Nat → Nat → Nat) (m : Nat) : ∀ n, nS n (fun i => nS m (fun j => f i j)) = nS m (fun j => nS n (fun i => f i j))
  | 0 => by simp only [nS]; rw [nS_const]; simp
  | n + 1 => by simp only [nS]; rw [nS_swap f m n, nS_add]
theorem nS_first (f : Nat → Nat) : ∀ n, nS (n + 1) f = f 0 + nS n (fun i => f (i + 1))
  | 0 => by simp [nS]
  | n + 1 => by rw [nS, nS_first f n, nS]; omega
/-- One of them alone. -/
theorem nS_one {a : Nat} (c : Nat) : ∀ {n : Nat}, a < n → nS n (fun i => if i = a then c else 0) = c
  | 0, h => by omega
  | n + 1, h => by
    simp only [nS]
    by_cases e : a = n
    · subst e
      rw [nS_congr (g := fun _ => 0) fun i hi => if_neg (by omega), nS_const, if_pos rfl]; simp
    · rw [nS_one c (by omega), if_neg (by omega), Nat.add_zero]
/-- All but one. -/
theorem nS_but {a : Nat} (c : Nat) {n : Nat} (h : a < n) : nS n (fun i => if i = a then 0 else c) = (n - 1) * c := by
  have h1 := nS_add (fun i => if i = a then 0 else c) (fun i => if i = a then c else 0) n
  rw [nS_one c h, nS_congr (g := fun _ => c) fun i _ => by split <;> simp, nS_const] at h1
  obtain ⟨k, rfl⟩ : ∃ k, n = k + 1 := ⟨n - 1, by omega⟩
  rw [Nat.succ_mul] at h1
  rw [Nat.add_sub_cancel]; omega
theorem nS_pos {f : Nat → Nat} : ∀ {n : Nat}, 0 < nS n f → ∃ i, i < n ∧ 0 < f i
  | 0, h => by simp [nS] at h
  | n + 1, h => by
    by_cases c : 0 < f n
    · exact ⟨n, by omega, c⟩
    · obtain ⟨i, hi, q⟩ := nS_pos (f := f) (n := n) (by simp only [nS] at h; omega)
      exact ⟨i, by omega, q⟩
theorem nS_ge {f : Nat → Nat} {a : Nat} : ∀ {n : Nat}, a < n → f a ≤ nS n f
  | 0, h => by omega
  | n + 1, h => by
    simp only [nS]
    by_cases e : a = n
    · subst e; omega
    · have := nS_ge (f := f) (a := a) (n := n) (by omega); omega
/-- At most one that is not nought, and that one is one. -/
theorem nS_le1 {f : Nat → Nat} : ∀ {n : Nat}, (∀ i, i < n → f i ≤ 1) → (∀ i j, i < n → j < n → 0 < f i → 0 < f j → i = j) → nS n f ≤ 1
  | 0, _, _ => by simp [nS]
  | n + 1, h, hu => by
    simp only [nS]
    have h1 := nS_le1 (f := f) (n := n) (fun i hi => h i (by omega)) fun i j hi hj => hu i j (by omega) (by omega)
    by_cases c : 0 < f n
    · have : nS n f = 0 := by
        rcases Nat.eq_zero_or_pos (nS n f) with e | e
        · exact e
        · obtain ⟨i, hi, q⟩ := nS_pos e
          have := hu i n (by omega) (by omega) q c; omega
      have := h n (by omega); omega
    · omega

section
variable {p : Nat} [NeZero p]
/-- How many of these places are not nought. -/
def wS (n : Nat) (S : Nat → Bool) (u : Nat → Fin p) : Nat := nS n fun j => if S j = true ∧ u j ≠ 0 then 1 else 0
def wt (n : Nat) (u : Nat → Fin p) : Nat := nS n fun j => if u j ≠ 0 then 1 else 0
def cw (k : Nat) (M : Nat → Nat → Fin p) (a : Nat → Fin p) (j : Nat) : Fin p := Sm k fun i => a i * M i j
theorem ppos : 0 < p := Nat.pos_of_ne_zero (NeZero.ne p)
theorem cF_lt {t : Nat} (h : t < p) : (cF p (t : Int)).val = t := by
  have := cF_val (p := p) (t : Int)
  rw [Int.emod_eq_of_lt (by omega) (by omega)] at this
  omega
theorem cF_iff {t : Nat} (h : t < p) (x : Fin p) : cF p (t : Int) = x ↔ t = x.val := by
  constructor
  · intro e; rw [← e, cF_lt h]
  · intro e; exact Fin.ext (by rw [cF_lt h, e])
theorem fg1 (x t c a : Fin p) (h : a * c = x) : x - t * c = (a - t) * c := by grind
theorem fg2 (a t : Fin p) (h : a - t = 0) : t = a := by grind
theorem fg3 (x t : Fin p) : x - t * 0 = x := by grind
theorem fg4 (b c x : Fin p) (h : c * b = 1) : (x * b) * c = x := by grind
theorem fg5 (t a : Fin p) (h : 0 - t * a = 0) : t * a = 0 := by grind
theorem fg6 (b : Fin p) (t a : Fin p) (h : t = 0) : b - t * a = b := by grind
theorem fg7 (x c : Fin p) {a : Fin p} (h : (0 - a) * c = x) (t : Fin p) : x + t * c = (t - a) * c := by grind
theorem fg8 (x : Fin p) (t : Fin p) : x + t * 0 = x := by grind
theorem fg9 (b c x : Fin p) (h : c * b = 1) : (0 - (0 - x * b)) * c = x := by grind
theorem fg10 (a t : Fin p) (h : t - a = 0) : t = a := by grind
/-- Of x less the multiples of c so many are not nought. -/
theorem line_cnt (hp : Fld p) (x c : Fin p) : nS p (fun t => if x - cF p (t : Int) * c ≠ 0 then 1 else 0) = if c = 0 then (if x = 0 then 0 else p) else p - 1 := by
  by_cases e : c = 0
  · subst e
    rw [if_pos rfl, nS_congr (g := fun _ => if x = 0 then 0 else 1) fun t _ => by rw [fg3]; by_cases q : x = 0 <;> simp [q], nS_const]
    split <;> simp
  · rw [if_neg e]
    obtain ⟨b, hb⟩ := hp.inv c e
    have ha := fg4 b c x hb
    rw [nS_congr (g := fun t => if t = (x * b).val then 0 else 1) fun t ht => by
      rw [fg1 x _ c (x * b) ha]
      by_cases q : t = (x * b).val
      · have := (cF_iff ht (x * b)).2 q
        rw [this, if_pos q, if_neg]
        intro h
        refine h ?_
        have : x * b - x * b = (0 : Fin p) := by grind
        rw [this]; grind
      · rw [if_neg q, if_pos]
        refine hp.mul_ne (fun h => q ?_) e
        exact (cF_iff ht _).1 (fg2 _ _ h), nS_but 1 (x * b).isLt, Nat.mul_one]
theorem line_cnt' (hp : Fld p) (x c : Fin p) : nS p (fun t => if x + cF p (t : Int) * c ≠ 0 then 1 else 0) = if c = 0 then (if x = 0 then 0 else p) else p - 1 := by
  by_cases e : c = 0
  · subst e
    rw [if_pos rfl, nS_congr (g := fun _ => if x = 0 then 0 else 1) fun t _ => by rw [fg8]; by_cases q : x = 0 <;> simp [q], nS_const]
    split <;> simp
  · rw [if_neg e]
    obtain ⟨b, hb⟩ := hp.inv c e
    have ha := fg9 b c x hb
    rw [nS_congr (g := fun t => if t = (0 - x * b).val then 0 else 1) fun t ht => by
      rw [fg7 x c ha]
      by_cases q : t = (0 - x * b).val
      · have := (cF_iff ht (0 - x * b)).2 q
        rw [this, if_pos q, if_neg]
        intro h
        refine h ?_
        have : (0 - x * b) - (0 - x * b) = (0 : Fin p) := by grind
        rw [this]; grind
      · rw [if_neg q, if_pos]
        refine hp.mul_ne (fun h => q ?_) e
        exact (cF_iff ht _).1 (fg10 _ _ h), nS_but 1 (0 - x * b).isLt, Nat.mul_one]

/-! GRIESMER. -/
def up (a b : Nat) : Nat := (a + (b - 1)) / b
theorem up_le {a b c : Nat} (hb : 0 < b) : up a b ≤ c ↔ a ≤ b * c := by
  unfold up
  rw [← Nat.lt_succ_iff, Nat.div_lt_iff_lt_mul hb, Nat.succ_mul, Nat.mul_comm]
  omega
theorem least {P : Nat → Prop} : ∀ {n : Nat}, P n → ∃ m, P m ∧ ∀ k, P k → m ≤ k := fun {n} => by
  induction n using Nat.strongRecOn with
  | ind n ih =>
    intro h
    by_cases c : ∃ k, k < n ∧ P k
    · obtain ⟨k, hk, q⟩ := c
      exact ih k hk q
    · exact ⟨n, h, fun k q => Nat.le_of_not_lt fun hk => c ⟨k, hk, q⟩⟩
theorem ins_sk (i0 i : Nat) : (if sk i0 i = i0 then (0 : Nat) else if sk i0 i < i0 then sk i0 i else sk i0 i - 1) = i := by
  rw [if_neg (sk_ne i0 i)]
  unfold sk
  split
  · rfl
  · rw [if_neg (by omega)]; omega
def ins (i0 : Nat) (b : Nat → Fin p) (i : Nat) : Fin p := if i = i0 then 0 else b (if i < i0 then i else i - 1)
theorem ins_at (i0 : Nat) (b : Nat → Fin p) (i : Nat) : ins i0 b (sk i0 i) = b i := by
  unfold ins
  rw [if_neg (sk_ne i0 i)]
  congr 1
  have := ins_sk i0 i
  rw [if_neg (sk_ne i0 i)] at this
  exact this
theorem ins_0 (i0 : Nat) (b : Nat → Fin p) : ins i0 b i0 = 0 := if_pos rfl
theorem cw_ins {k i0 : Nat} (hi : i0 < k + 1) (M : Nat → Nat → Fin p) (b : Nat → Fin p) (j : Nat) : cw (k + 1) M (ins i0 b) j = cw k (fun i => M (sk i0 i)) b j := by
  unfold cw
  rw [Sm_sk _ hi, ins_0]
  have : (0 : Fin p) * M i0 j = 0 := by grind
  rw [this, Sm_congr (g := fun i => b i * M (sk i0 i) j) fun i _ => by rw [ins_at]]
  grind
theorem cw_sub (k : Nat) (M : Nat → Nat → Fin p) (a b : Nat → Fin p) (t : Fin p) (j : Nat) : cw k M (fun i => a i - t * b i) j = cw k M a j - t * cw k M b j := by
  unfold cw
  rw [← Sm_mul, ← Sm_sub]
  exact Sm_congr fun i _ => by grind
theorem wS_split (n : Nat) (S : Nat → Bool) (c : Nat → Fin p) : nS n (fun j => if S j = true then 1 else 0) = nS n (fun j => if (S j && decide (c j = 0)) = true then 1 else 0) + wS n S c := by
  unfold wS
  rw [← nS_add]
  refine nS_congr fun j _ => ?_
  by_cases h : c j = 0 <;> cases S j <;> simp [h]
theorem gries (hp : Fld p) {n : Nat} : ∀ (k : Nat) (M : Nat → Nat → Fin p) (S : Nat → Bool) (d : Nat), (∀ a : Nat → Fin p, (∃ i, i < k ∧ a i ≠ 0) → d ≤ wS n S (cw k M a)) → nS k (fun i => up d (p ^ i)) ≤ nS n fun j => if S j = true then 1 else 0
  | 0, M, S, d, h => by simp [nS]
  | k + 1, M, S, d, h => by
    have p0 : 0 < p := ppos
    obtain ⟨d', ⟨a, ⟨i0, hi0, ha0⟩, had⟩, hmin⟩ := least (P := fun w => ∃ a : Nat → Fin p, (∃ i, i < k + 1 ∧ a i ≠ 0) ∧ wS n S (cw (k + 1) M a) = w) (n := wS n S (cw (k + 1) M fun _ => 1)) ⟨fun _ => 1, ⟨0, by omega, hp.one⟩, rfl⟩
    have hmin' : ∀ b : Nat → Fin p, (∃ i, i < k + 1 ∧ b i ≠ 0) → d' ≤ wS n S (cw (k + 1) M b) := fun b hb => hmin _ ⟨b, hb, rfl⟩
    have hdd : d ≤ d' := by rw [← had]; exact h a ⟨i0, hi0, ha0⟩
    have ih := gries hp (n := n) k (fun i => M (sk i0 i)) (fun j => S j && decide (cw (k + 1) M a j = 0)) (up d' p) fun b hb => by
      rw [up_le p0]
      have hsum : p * d' ≤ nS p (fun t => wS n S (cw (k + 1) M fun i => ins i0 b i - cF p (t : Int) * a i)) := by
        rw [← nS_const d' p]
        refine nS_le fun t ht => hmin' _ ?_
        by_cases q : cF p (t : Int) = 0
        · obtain ⟨i1, h1, h2⟩ := hb
          exact ⟨sk i0 i1, sk_lt h1, by rw [ins_at, fg6 _ _ _ q]; exact h2⟩
        · exact ⟨i0, hi0, by rw [ins_0]; exact fun e => hp.mul_ne q ha0 (fg5 _ _ e)⟩
      have hev : nS p (fun t => wS n S (cw (k + 1) M fun i => ins i0 b i - cF p (t : Int) * a i)) = p * wS n (fun j => S j && decide (cw (k + 1) M a j = 0)) (cw k (fun i => M (sk i0 i)) b) + (p - 1) * wS n S (cw (k + 1) M a) := by
        unfold wS
        rw [nS_swap, ← nS_mul, ← nS_mul, ← nS_add]
        refine nS_congr fun j _ => ?_
        cases hs : S j
        · simp [nS_const, hs]
        · have hl := line_cnt hp (cw k (fun i => M (sk i0 i)) b j) (cw (k + 1) M a j)
          rw [nS_congr (g := fun t => if cw k (fun i => M (sk i0 i)) b j - cF p (t : Int) * cw (k + 1) M a j ≠ 0 then 1 else 0) fun t _ => by rw [cw_sub, cw_ins hi0]; simp, hl]
          by_cases q : cw (k + 1) M a j = 0
          · by_cases q2 : cw k (fun i => M (sk i0 i)) b j = 0 <;> simp [q, q2, hs]
          · simp [q, hs]
      rw [hev, had] at hsum
      rw [Nat.sub_mul, Nat.one_mul] at hsum
      have := Nat.le_mul_of_pos_left d' p0
      omega
    rw [wS_split n S (cw (k + 1) M a), had, nS_first]
    have h1 : up d (p ^ 0) ≤ d' := by rw [Nat.pow_zero, up_le (by omega)]; omega
    have h2 : nS k (fun i => up d (p ^ (i + 1))) ≤ nS k (fun i => up (up d' p) (p ^ i)) := nS_le fun i _ => by
      have hq := Nat.pow_pos (n := i) p0
      have e1 := (up_le (a := up d' p) (c := up (up d' p) (p ^ i)) hq).1 (Nat.le_refl _)
      have e2 := (up_le (a := d') (c := p ^ i * up (up d' p) (p ^ i)) p0).1 e1
      rw [up_le (Nat.pow_pos p0), Nat.pow_succ, Nat.mul_comm (p ^ i) p, Nat.mul_assoc]
      omega
    omega
end
end Go.SH
