/-
 Words of a matrix' rows modulo p: how many vanish at some places; so many words none of which places are nought: CRAPO, ROTA. Conditions: none.
-/
import Derived.Test.YtlpikingpnenkaaLcF
set_option linter.unusedSimpArgs false
set_option linter.unusedVariables false
set_option linter.unusedSectionVars false
namespace Go.SH
open Go Go.AX
theorem sumN_add' (n : Nat) (g h : Nat → Int) : sumN n (fun i => g i + h i) = sumN n g + sumN n h := by
 induction n with
 | zero => rfl
 | succ n ih => simp only [sumN]; rw [ih]; omega
theorem sumN_one {n i : Nat} (v : Int) (h : i < n) : sumN n (fun j => if j = i then v else 0) = v := by
 induction n with
 | zero => omega
 | succ n ih =>
  simp only [sumN]
  by_cases c : i = n
  ·subst c
   rw [if_pos rfl, sumN_congr (h := fun _ => 0) (fun j hj => if_neg (by omega)), sumN_zero]; omega
  ·rw [ih (by omega), if_neg (Ne.symm c)]; omega
theorem sumN_swap' (n m : Nat) (g : Nat → Nat → Int) : sumN n (fun i => sumN m (fun j => g i j)) = sumN m (fun j => sumN n (fun i => g i j)) := by
 induction n with
 | zero => simp only [sumN]; exact (sumN_zero m).symm
 | succ n ih => simp only [sumN]; rw [ih, ← sumN_add']
theorem sumN_at {n i : Nat} {g : Nat → Int} (h : ∀ i, i < n → 0 ≤ g i) (hi : i < n) : g i ≤ sumN n g := by
 have := sumN_le (n := n) (g := fun j => if j = i then g i else 0) (h := g) fun j hj => by
  split
  ·rename_i e; rw [e]; exact Int.le_refl _
  ·exact h j hj
 rwa [sumN_one _ hi] at this
theorem sumN_some {n : Nat} {g : Nat → Int} (h : 0 < sumN n g) : ∃ i, i < n ∧ 0 < g i := by
 rcases Classical.em (∃ i, i < n ∧ 0 < g i) with c | c
 ·exact c
 ·have := sumN_le (n := n) (g := g) (h := fun _ => 0) fun i hi => by
   rcases Int.lt_or_le 0 (g i) with d | d
   ·exact absurd ⟨i, hi, d⟩ c
   ·exact d
  rw [sumN_zero] at this; omega
theorem sumN_const (n : Nat) (c : Int) : sumN n (fun _ => c) = n * c := by
 induction n with
 | zero => simp [sumN]
 | succ n ih => simp only [sumN]; rw [ih]; push_cast; rw [Int.add_mul]; omega
section
variable {p : Nat} [NeZero p]
theorem cF_lt {t : Nat} (h : t < p) : (cF p (t : Int)).val = t := by
 have := cF_val (p := p) (t : Int)
 rw [Int.emod_eq_of_lt (by omega) (by omega)] at this
 omega
theorem cF_iff {t : Nat} (h : t < p) (x : Fin p) : cF p (t : Int) = x ↔ t = x.val := by
 constructor
 ·intro e; rw [← e, cF_lt h]
 ·intro e; exact Fin.ext (by rw [cF_lt h, e])
theorem sum_pick (x : Fin p) (v : Nat → Int) : sumN p (fun d => if cF p (d : Int) = x then v d else 0) = v x.val := by
 rw [sumN_congr (h := fun d => if d = x.val then v x.val else 0) fun d hd => ?_]
 ·exact sumN_one _ x.isLt
 ·by_cases c : d = x.val
  ·rw [if_pos c, if_pos ((cF_iff hd x).2 c), c]
  ·rw [if_neg c, if_neg fun e => c ((cF_iff hd x).1 e)]
theorem fs1 (c b x : Fin p) : x = c + b ↔ c = x - b := by constructor <;> (intro h; grind)
theorem sum_shift (g : Fin p → Int) (b : Fin p) : sumN p (fun c => g (cF p (c : Int) + b)) = sumN p (fun c => g (cF p (c : Int))) := by
 have h1 : ∀ c, c < p → g (cF p (c : Int) + b) = sumN p (fun d => if cF p (d : Int) = cF p (c : Int) + b then g (cF p (d : Int)) else 0) := fun c _ => by
  rw [sum_pick (cF p (c : Int) + b) fun d => g (cF p (d : Int)), cF_fin]
 rw [sumN_congr h1, sumN_swap']
 refine sumN_congr fun d hd => ?_
 rw [sumN_congr (h := fun c => if cF p (c : Int) = cF p (d : Int) - b then g (cF p (d : Int)) else 0) fun c _ => ?_]
 ·exact sum_pick (cF p (d : Int) - b) fun _ => g (cF p (d : Int))
 ·by_cases e : cF p (d : Int) = cF p (c : Int) + b
  ·rw [if_pos e, if_pos ((fs1 _ _ _).1 e)]
  ·rw [if_neg e, if_neg fun q => e ((fs1 _ _ _).2 q)]
/-- v, but c at n. -/
def udv (v : Nat → Fin p) (n : Nat) (c : Fin p) (j : Nat) : Fin p := if j = n then c else v j
/-- A sum over all vectors of n numbers. -/
def vI : Nat → ((Nat → Fin p) → Int) → Int
 | 0, F => F fun _ => 0
 | n + 1, F => sumN p fun c => vI n fun v => F (udv v n (cF p (c : Int)))
theorem vI_congr {F G : (Nat → Fin p) → Int} : ∀ {n : Nat}, (∀ v, F v = G v) → vI n F = vI n G
 | 0, h => h _
 | n + 1, h => sumN_congr fun c _ => vI_congr fun v => h _
theorem vI_add (F G : (Nat → Fin p) → Int) : ∀ n, vI n (fun v => F v + G v) = vI n F + vI n G
 | 0 => rfl
 | n + 1 => by
  simp only [vI]
  rw [← sumN_add']
  exact sumN_congr fun c _ => vI_add _ _ n
theorem vI_mul (k : Int) (F : (Nat → Fin p) → Int) : ∀ n, vI n (fun v => k * F v) = k * vI n F
 | 0 => rfl
 | n + 1 => by
  simp only [vI]
  rw [← sumN_mul]
  exact sumN_congr fun c _ => vI_mul k _ n
theorem vI_zero : ∀ n, vI n (fun _ : Nat → Fin p => (0 : Int)) = 0
 | 0 => rfl
 | n + 1 => by
  simp only [vI]
  rw [sumN_congr (h := fun _ => 0) fun c _ => vI_zero n, sumN_zero]
theorem vI_sum (m : Nat) (F : Nat → (Nat → Fin p) → Int) (n : Nat) : vI n (fun v => sumN m fun i => F i v) = sumN m fun i => vI n (F i) := by
 induction m with
 | zero => simp only [sumN]; exact vI_zero n
 | succ m ih => simp only [sumN]; rw [vI_add, ih]
theorem vI_le {F G : (Nat → Fin p) → Int} : ∀ {n : Nat}, (∀ v, F v ≤ G v) → vI n F ≤ vI n G
 | 0, h => h _
 | n + 1, h => sumN_le fun c _ => vI_le fun v => h _
theorem vI_nn {F : (Nat → Fin p) → Int} {n : Nat} (h : ∀ v, 0 ≤ F v) : 0 ≤ vI n F := by
 have := vI_le (n := n) (F := fun _ => 0) (G := F) h
 rwa [vI_zero] at this
theorem vI_one : ∀ n, vI n (fun _ : Nat → Fin p => (1 : Int)) = ((p ^ n : Nat) : Int)
 | 0 => rfl
 | n + 1 => by
  simp only [vI]
  rw [sumN_congr (h := fun _ => ((p ^ n : Nat) : Int)) fun c _ => vI_one n, sumN_const, Nat.pow_succ, Nat.mul_comm, Int.natCast_mul]
theorem vI_some {F : (Nat → Fin p) → Int} : ∀ {n : Nat}, 0 < vI n F → ∃ v, 0 < F v
 | 0, h => ⟨_, h⟩
 | n + 1, h => by
  obtain ⟨c, _, hc⟩ := sumN_some h
  obtain ⟨v, hv⟩ := vI_some hc
  exact ⟨_, hv⟩
theorem vI_at {n : Nat} : ∀ {F : (Nat → Fin p) → Int} (h : ∀ v, 0 ≤ F v) (a : Nat → Fin p) (ha : ∀ i, n ≤ i → a i = 0), F a ≤ vI n F := by
 induction n with
 | zero =>
  intro F h a ha
  have : a = fun _ => 0 := funext fun i => ha i (Nat.zero_le _)
  rw [this]; exact Int.le_refl _
 | succ n ih =>
  intro F h a ha
  have h1 := ih (F := fun v => F (udv v n (a n))) (fun v => h _) (fun i => if i = n then 0 else a i) fun i hi => by
   split
   ·rfl
   ·exact ha i (by omega)
  have h2 : udv (fun i => if i = n then 0 else a i) n (a n) = a := funext fun i => by
   unfold udv
   split
   ·rename_i e; rw [e]
   ·rename_i e; exact if_neg e
  simp only [h2] at h1
  have h3 := sumN_at (n := p) (i := (a n).val) (g := fun c => vI n fun v => F (udv v n (cF p (c : Int)))) (fun c _ => vI_nn fun v => h _) (a n).isLt
  simp only [cF_fin] at h3
  exact Int.le_trans h1 h3
theorem vI_shift {n : Nat} : ∀ (F : (Nat → Fin p) → Int) (b : Nat → Fin p) (hb : ∀ i, n ≤ i → b i = 0), vI n (fun v => F fun i => v i + b i) = vI n F := by
 induction n with
 | zero =>
  intro F b hb
  show F _ = F _
  refine congrArg F (funext fun i => ?_)
  rw [hb i (Nat.zero_le _)]; grind
 | succ n ih =>
  intro F b hb
  have h1 : ∀ c : Fin p, vI n (fun v => F fun i => udv v n c i + b i) = vI n (fun v => F (udv v n (c + b n))) := fun c => by
   rw [← ih (fun v => F (udv v n (c + b n))) (fun i => if i = n then 0 else b i) fun i hi => by
    split
    ·rfl
    ·exact hb i (by omega)]
   refine vI_congr fun v => congrArg F (funext fun i => ?_)
   unfold udv
   by_cases e : i = n
   ·rw [if_pos e, if_pos e, e]
   ·rw [if_neg e, if_neg e]
    show v i + b i = v i + (if i = n then 0 else b i)
    rw [if_neg e]
  show sumN p _ = sumN p _
  rw [sumN_congr fun c _ => h1 (cF p (c : Int))]
  exact sum_shift (fun x => vI n fun v => F (udv v n x)) (b n)
/-- The word of the rows' coefficients a. -/
def cw (k : Nat) (M : Nat → Nat → Fin p) (a : Nat → Fin p) (j : Nat) : Fin p := Sm k fun i => a i * M i j
def van (k n : Nat) (M : Nat → Nat → Fin p) (S : Nat) (a : Nat → Fin p) : Prop := ∀ j, j < n → S.testBit j = true → cw k M a j = 0
open Classical in
/-- How many words vanish there. -/
noncomputable def NS (k n : Nat) (M : Nat → Nat → Fin p) (S : Nat) : Int := vI k fun a => if van k n M S a then 1 else 0
variable {k n : Nat} {M : Nat → Nat → Fin p}
theorem fd (a b m : Fin p) : (a + b) * m = a * m + b * m := by grind
theorem fm (t b m : Fin p) : t * b * m = t * (b * m) := by grind
theorem cw_add (a b : Nat → Fin p) (j : Nat) : cw k M (fun i => a i + b i) j = cw k M a j + cw k M b j := by
 unfold cw
 rw [← Sm_add]
 exact Sm_congr fun i _ => fd _ _ _
theorem cw_mul (t : Fin p) (b : Nat → Fin p) (j : Nat) : cw k M (fun i => t * b i) j = t * cw k M b j := by
 unfold cw
 rw [← Sm_mul]
 exact Sm_congr fun i _ => fm _ _ _
theorem cw_trunc (a : Nat → Fin p) : cw k M (fun i => if i < k then a i else 0) = cw k M a := funext fun j => Sm_congr fun i hi => by simp only; rw [if_pos hi]
theorem NS_nn (S : Nat) : 0 ≤ NS k n M S := vI_nn fun v => by split <;> omega
theorem van_or {S j : Nat} (hj : j < n) (a : Nat → Fin p) : van k n M (S ||| 2 ^ j) a ↔ van k n M S a ∧ cw k M a j = 0 := by
 constructor
 ·intro h
  exact ⟨fun i hi hb => h i hi (by rw [Nat.testBit_or, hb]; rfl), h j hj (by rw [Nat.testBit_or, testBit_pow]; simp)⟩
 ·rintro ⟨h1, h2⟩ i hi hb
  rw [Nat.testBit_or, testBit_pow] at hb
  simp only [Bool.or_eq_true, decide_eq_true_eq] at hb
  rcases hb with hb | rfl
  ·exact h1 i hi hb
  ·exact h2
theorem fz (t x y : Fin p) (hx : x = 0) : (x + t * 0 : Fin p) = 0 := by grind
theorem fu (x t c b : Fin p) (h : c * b = 1) : x + t * c = 0 ↔ t = -(x * b) := by
 constructor
 ·intro q
  have : t * c * b = -(x * b) := by
   have : t * c = -x := by grind
   rw [this]; grind
  have e : t * c * b = t := by
   have : t * c * b = t * (c * b) := by grind
   rw [this, h]; grind
  rw [← e, this]
 ·intro q; subst q; grind
open Classical in
theorem NS_step (hp : Fld p) {S j : Nat} (hj : j < n) : NS k n M (S ||| 2 ^ j) ≤ NS k n M S ∧ NS k n M S ≤ p * NS k n M (S ||| 2 ^ j) := by
 refine ⟨vI_le fun a => ?_, ?_⟩
 ·by_cases h : van k n M (S ||| 2 ^ j) a
  ·rw [if_pos h, if_pos ((van_or hj a).1 h).1]; omega
  ·rw [if_neg h]; split <;> omega
 ·by_cases hex : ∃ b, van k n M S b ∧ cw k M b j ≠ 0
  ·obtain ⟨b0, hb1, hb2⟩ := hex
   have ⟨b, hbt, hbv, hbj⟩ : ∃ b : Nat → Fin p, (∀ i, k ≤ i → b i = 0) ∧ van k n M S b ∧ cw k M b j ≠ 0 :=
    ⟨fun i => if i < k then b0 i else 0, fun i hi => if_neg (by omega), fun i hi hb => by rw [cw_trunc]; exact hb1 i hi hb, by rw [cw_trunc]; exact hb2⟩
   obtain ⟨c, hc⟩ := hp.inv _ hbj
   have h1 : ∀ a, (if van k n M S a then (1 : Int) else 0) = sumN p fun t => if van k n M (S ||| 2 ^ j) (fun i => a i + cF p (t : Int) * b i) then 1 else 0 := fun a => by
    have e : ∀ t : Fin p, van k n M (S ||| 2 ^ j) (fun i => a i + t * b i) ↔ van k n M S a ∧ t = -(cw k M a j * c) := fun t => by
     rw [van_or hj]
     have w : ∀ l, cw k M (fun i => a i + t * b i) l = cw k M a l + t * cw k M b l := fun l => by rw [cw_add, cw_mul]
     rw [w j, fu _ _ _ _ hc]
     refine and_congr_left fun _ => ?_
     constructor
     ·intro q l hl hb
      have := q l hl hb
      rw [w l, hbv l hl hb] at this
      grind
     ·intro q l hl hb
      rw [w l, hbv l hl hb]
      exact fz t _ 0 (q l hl hb)
    by_cases hS : van k n M S a
    ·rw [if_pos hS, sumN_congr (h := fun t => if cF p (t : Int) = -(cw k M a j * c) then 1 else 0) fun t _ => ?_]
     ·exact (sum_pick (-(cw k M a j * c)) fun _ => (1 : Int)).symm
     ·by_cases q : cF p (t : Int) = -(cw k M a j * c)
      ·rw [if_pos q, if_pos ((e _).2 ⟨hS, q⟩)]
      ·rw [if_neg q, if_neg fun z => q ((e _).1 z).2]
    ·rw [if_neg hS, sumN_congr (h := fun _ => 0) fun t _ => if_neg fun z => hS ((e _).1 z).1, sumN_zero]
   unfold NS
   rw [vI_congr h1, vI_sum, sumN_congr (h := fun _ => NS k n M (S ||| 2 ^ j)) fun t _ => ?_, sumN_const]
   ·exact Int.le_refl _
   ·exact vI_shift (fun a => if van k n M (S ||| 2 ^ j) a then (1 : Int) else 0) (fun i => cF p (t : Int) * b i) fun i hi => by rw [hbt i hi]; grind
  ·have e : NS k n M S ≤ NS k n M (S ||| 2 ^ j) := vI_le fun a => by
    by_cases h : van k n M S a
    ·have : cw k M a j = 0 := by
      rcases Classical.em (cw k M a j = 0) with c | c
      ·exact c
      ·exact absurd ⟨a, h, c⟩ hex
     rw [if_pos h, if_pos ((van_or hj a).2 ⟨h, this⟩)]; omega
    ·rw [if_neg h]; split <;> omega
   have h0 := NS_nn (k := k) (n := n) (M := M) (S ||| 2 ^ j)
   have : (1 : Int) * NS k n M (S ||| 2 ^ j) ≤ p * NS k n M (S ||| 2 ^ j) := Int.mul_le_mul_of_nonneg_right (by have := Nat.pos_of_ne_zero (NeZero.ne p); omega) h0
   omega
theorem NS_zero : NS k n M 0 = ((p ^ k : Nat) : Int) := by
 rw [← vI_one k]
 unfold NS
 exact vI_congr fun a => if_pos fun j _ hb => by simp at hb
theorem NS_low (hp : Fld p) : ∀ S, S < 2 ^ n → ((p ^ k : Nat) : Int) ≤ ((p ^ cnt n S : Nat) : Int) * NS k n M S := by
 refine set_ind _ ?_ ?_
 ·rw [cnt_zero, NS_zero]; simp
 ·intro S i hS hi hb ih
  have h := (NS_step (k := k) (M := M) hp (S := S) hi).2
  rw [cnt_add hi hb, Nat.pow_succ, Int.natCast_mul]
  have := Int.mul_le_mul_of_nonneg_left h (show (0 : Int) ≤ ((p ^ cnt n S : Nat) : Int) by omega)
  rw [Int.mul_assoc]
  omega
theorem NS_up (hp : Fld p) (S : Nat) : ∀ D, D < 2 ^ n → NS k n M S ≤ ((p ^ cnt n D : Nat) : Int) * NS k n M (S ||| D) := by
 refine set_ind _ ?_ ?_
 ·rw [cnt_zero, Nat.or_zero]; simp
 ·intro D i hD hi hb ih
  have h := (NS_step (k := k) (M := M) hp (S := S ||| D) hi).2
  rw [cnt_add hi hb, Nat.pow_succ, Int.natCast_mul, ← Nat.or_assoc]
  have := Int.mul_le_mul_of_nonneg_left h (show (0 : Int) ≤ ((p ^ cnt n D : Nat) : Int) by omega)
  rw [Int.mul_assoc]
  omega
end
end Go.SH
