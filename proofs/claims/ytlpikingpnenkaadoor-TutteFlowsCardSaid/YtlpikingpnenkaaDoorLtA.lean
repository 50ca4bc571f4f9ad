/-
 Flows modulo q on a graph given by its list of edges: how many of them there are on a set of edges, and how many nowhere zero (inclusion and exclusion). Conditions: none.
-/
import Derived.Test.YtlpikingpnenkaaDoorHK
set_option linter.unusedSimpArgs false
set_option linter.unusedVariables false
namespace Go.SH
open Go Go.AX
/-- A sum over the numbers below n. -/
def sm : Nat → (Nat → Int) → Int
 | 0, _ => 0
 | n + 1, f => sm n f + f n
theorem sm_congr {n : Nat} {f g : Nat → Int} (h : ∀ i, i < n → f i = g i) : sm n f = sm n g := by
 induction n with
 | zero => rfl
 | succ n ih => simp only [sm]; rw [ih fun i hi => h i (by omega), h n (by omega)]
theorem sm_zero {n : Nat} {f : Nat → Int} (h : ∀ i, i < n → f i = 0) : sm n f = 0 := by
 induction n with
 | zero => rfl
 | succ n ih => simp only [sm]; rw [ih fun i hi => h i (by omega), h n (by omega)]; rfl
theorem sm_const (n : Nat) (c : Int) : sm n (fun _ => c) = n * c := by
 induction n with
 | zero => simp [sm]
 | succ n ih => simp only [sm]; rw [ih]; push_cast; rw [Int.add_mul, Int.one_mul]
theorem sm_addf (n : Nat) (f g : Nat → Int) : sm n (fun i => f i + g i) = sm n f + sm n g := by
 induction n with
 | zero => rfl
 | succ n ih => simp only [sm]; rw [ih]; omega
theorem sm_subf (n : Nat) (f g : Nat → Int) : sm n (fun i => f i - g i) = sm n f - sm n g := by
 induction n with
 | zero => rfl
 | succ n ih => simp only [sm]; rw [ih]; omega
theorem sm_mulf (n : Nat) (c : Int) (f : Nat → Int) : sm n (fun i => c * f i) = c * sm n f := by
 induction n with
 | zero => simp [sm]
 | succ n ih => simp only [sm]; rw [ih, Int.mul_add]
theorem sm_le {n : Nat} {f g : Nat → Int} (h : ∀ i, i < n → f i ≤ g i) : sm n f ≤ sm n g := by
 induction n with
 | zero => exact Int.le_refl _
 | succ n ih => simp only [sm]; have := ih fun i hi => h i (by omega); have := h n (by omega); omega
theorem sm_front (n : Nat) (f : Nat → Int) : sm (n + 1) f = f 0 + sm n fun i => f (i + 1) := by
 induction n with
 | zero => simp [sm]
 | succ n ih => rw [sm, ih]; simp only [sm]; omega
theorem sm_plus (m n : Nat) (f : Nat → Int) : sm (m + n) f = sm m f + sm n fun i => f (m + i) := by
 induction n with
 | zero => simp [sm]
 | succ n ih => rw [← Nat.add_assoc, sm, ih]; simp only [sm]; omega
theorem sm_mulr (p n : Nat) (f : Nat → Int) : sm (p * n) f = sm p fun a => sm n fun c => f (a * n + c) := by
 induction p with
 | zero => simp [sm]
 | succ p ih => rw [Nat.succ_mul, sm_plus, ih]; rfl
theorem sm_swap (m n : Nat) (f : Nat → Nat → Int) : sm m (fun i => sm n (f i)) = sm n fun j => sm m fun i => f i j := by
 induction m with
 | zero => exact (sm_zero fun _ _ => rfl).symm
 | succ m ih => simp only [sm]; rw [ih, ← sm_addf]
theorem sm_single {n u : Nat} (h : u < n) (c : Int) : sm n (fun i => if i = u then c else 0) = c := by
 induction n with
 | zero => omega
 | succ n ih =>
  simp only [sm]
  by_cases e : u = n
  ·subst e
   rw [sm_zero fun i hi => if_neg (by omega), if_pos rfl]; omega
  ·rw [ih (by omega), if_neg (by omega)]; omega
/-- The ends of an edge. -/
def eU (E : List (Int × Int)) (k : Nat) : Nat := (E.getD k (0, 0)).1.toNat
def eV (E : List (Int × Int)) (k : Nat) : Nat := (E.getD k (0, 0)).2.toNat
/-- The part where x lies, of the first k edges those in s taken. -/
def lab (E : List (Int × Int)) (s : Nat) : Nat → Nat → Nat
 | 0, x => x
 | k + 1, x => if s.testBit k = true ∧ lab E s k (eU E k) ≠ lab E s k (eV E k) then (if lab E s k x = lab E s k (eU E k) then lab E s k (eV E k) else lab E s k x) else lab E s k x
/-- How many circuits: edges within a part. -/
def nu (E : List (Int × Int)) (s : Nat) : Nat → Nat
 | 0 => 0
 | k + 1 => if s.testBit k = true ∧ lab E s k (eU E k) = lab E s k (eV E k) then nu E s k + 1 else nu E s k
/-- The sign of a set among the first k. -/
def sg (s : Nat) : Nat → Int
 | 0 => 1
 | k + 1 => if s.testBit k = true then sg s k else - sg s k
/-- What flows on edge k changes. -/
def bp (E : List (Int × Int)) (k : Nat) (a : Int) (d : Nat → Int) : Nat → Int := fun x => d x + (if x = eU E k then a else 0) - (if x = eV E k then a else 0)
theorem bp_zero (E : List (Int × Int)) (k : Nat) (d : Nat → Int) : bp E k 0 d = d := by
 funext x; unfold bp; simp
section
variable (N q : Nat) (E : List (Int × Int))
open Classical in
/-- How many ways to settle d by flows on the edges of s among the first k. -/
noncomputable def Gf (s : Nat) : Nat → (Nat → Int) → Int
 | 0, d => if ∀ x, x < N → (q : Int) ∣ d x then 1 else 0
 | k + 1, d => if s.testBit k = true then sm q (fun a => Gf s k (bp E k a d)) else Gf s k d
/-- The same by flows that are nowhere zero on the first k edges. -/
noncomputable def NZ : Nat → (Nat → Int) → Int
 | 0, d => Gf N q E 0 0 d
 | k + 1, d => sm (q - 1) fun a => NZ k (bp E k ((a + 1 : Nat) : Int) d)
/-- A part's sum. -/
def cs (s k : Nat) (d : Nat → Int) (L : Nat) : Int := sm N fun x => if lab E s k x = L then d x else 0
end
variable {N q : Nat} {E : List (Int × Int)}
theorem sg_congr {s s' : Nat} : ∀ {k : Nat}, (∀ i, i < k → s.testBit i = s'.testBit i) → sg s k = sg s' k := by
 intro k
 induction k with
 | zero => intro _; rfl
 | succ k ih => intro h; simp only [sg]; rw [ih fun i hi => h i (by omega), h k (by omega)]
theorem Gf_congr {s s' : Nat} : ∀ {k : Nat} {d : Nat → Int}, (∀ i, i < k → s.testBit i = s'.testBit i) → Gf N q E s k d = Gf N q E s' k d := by
 intro k
 induction k with
 | zero => intro _ _; rfl
 | succ k ih =>
  intro d h; simp only [Gf]; rw [h k (by omega)]
  split
  ·exact sm_congr fun a _ => ih fun i hi => h i (by omega)
  ·exact ih fun i hi => h i (by omega)
/-- The ends of the first k edges are vertices. -/
def Ends (N : Nat) (E : List (Int × Int)) (k : Nat) : Prop := ∀ i, i < k → eU E i < N ∧ eV E i < N
theorem cs_bp {s k : Nat} {d : Nat → Int} {L : Nat} {a : Int} {j : Nat} (hu : eU E j < N) (hv : eV E j < N) : cs N E s k (bp E j a d) L = cs N E s k d L + (if lab E s k (eU E j) = L then a else 0) - (if lab E s k (eV E j) = L then a else 0) := by
 unfold cs bp
 have e : ∀ x, (if lab E s k x = L then d x + (if x = eU E j then a else 0) - (if x = eV E j then a else 0) else 0) = (if lab E s k x = L then d x else 0) + (if x = eU E j then (if lab E s k (eU E j) = L then a else 0) else 0) - (if x = eV E j then (if lab E s k (eV E j) = L then a else 0) else 0) := fun x => by
  by_cases h : lab E s k x = L
  ·rw [if_pos h, if_pos h]
   by_cases h1 : x = eU E j <;> by_cases h2 : x = eV E j <;> simp_all
  ·rw [if_neg h, if_neg h]
   by_cases h1 : x = eU E j <;> by_cases h2 : x = eV E j <;> simp_all
 rw [sm_congr fun x _ => e x, sm_subf, sm_addf, sm_single hu, sm_single hv]
theorem cs_merge {s k : Nat} {d : Nat → Int} {L : Nat} (h : s.testBit k = true) (hne : lab E s k (eU E k) ≠ lab E s k (eV E k)) :
  cs N E s (k + 1) d L = if L = lab E s k (eU E k) then 0 else if L = lab E s k (eV E k) then cs N E s k d (lab E s k (eU E k)) + cs N E s k d (lab E s k (eV E k)) else cs N E s k d L := by
 unfold cs
 have e : ∀ x, lab E s (k + 1) x = if lab E s k x = lab E s k (eU E k) then lab E s k (eV E k) else lab E s k x := fun x => by
  simp only [lab]; rw [if_pos ⟨h, hne⟩]
 rw [sm_congr (g := fun x => if (if lab E s k x = lab E s k (eU E k) then lab E s k (eV E k) else lab E s k x) = L then d x else 0) fun x _ => by rw [e]]
 generalize lab E s k (eU E k) = lu at *
 generalize lab E s k (eV E k) = lv at *
 by_cases h1 : L = lu
 ·rw [if_pos h1]
  refine sm_zero fun x _ => ?_
  by_cases h2 : lab E s k x = lu
  ·rw [if_pos h2, if_neg (by omega)]
  ·rw [if_neg h2, if_neg (by omega)]
 ·rw [if_neg h1]
  by_cases h3 : L = lv
  ·rw [if_pos h3, ← sm_addf]
   refine sm_congr fun x _ => ?_
   by_cases h2 : lab E s k x = lu
   ·rw [if_pos h2, if_pos h3.symm, if_pos h2, if_neg (by omega)]; omega
   ·rw [if_neg h2, if_neg h2, h3]; omega
  ·rw [if_neg h3]
   refine sm_congr fun x _ => ?_
   by_cases h2 : lab E s k x = lu
   ·rw [if_pos h2, if_neg (by omega), if_neg (by omega)]
   ·rw [if_neg h2]
theorem lab_keep {s k : Nat} (h : ¬ (s.testBit k = true ∧ lab E s k (eU E k) ≠ lab E s k (eV E k))) : lab E s (k + 1) = lab E s k := by
 funext x; simp only [lab]; rw [if_neg h]
open Classical in
theorem sm_one {q : Nat} (hq : 0 < q) (c P : Int) : sm q (fun a => if (q : Int) ∣ c + (a : Int) then P else 0) = P := by
 have h0 : 0 ≤ (-c) % (q : Int) := Int.emod_nonneg _ (by omega)
 have h1 : (-c) % (q : Int) < q := Int.emod_lt_of_pos _ (by omega)
 obtain ⟨r, hr⟩ := Int.eq_ofNat_of_zero_le h0
 have hr2 : r < q := by omega
 have hd : (q : Int) ∣ c + (r : Int) := by
  rw [← hr]
  refine ⟨-((-c) / (q : Int)), ?_⟩
  have := Int.emod_add_mul_ediv (-c) (q : Int)
  rw [Int.mul_neg]; omega
 rw [sm_congr (g := fun a => if a = r then P else 0) fun a ha => ?_, sm_single hr2]
 by_cases e : a = r
 ·subst e; rw [if_pos hd, if_pos rfl]
 ·rw [if_neg e, if_neg]
  intro h
  have hs : (q : Int) ∣ (a : Int) - (r : Int) := by
   have := Int.dvd_sub h hd
   have e2 : c + (a : Int) - (c + (r : Int)) = (a : Int) - r := by omega
   rwa [e2] at this
  obtain ⟨t, ht⟩ := hs
  rcases Int.lt_trichotomy t 0 with h3 | h3 | h3
  ·have : (q : Int) * t ≤ (q : Int) * (-1) := Int.mul_le_mul_of_nonneg_left (by omega) (by omega)
   omega
  ·subst h3; simp at ht; omega
  ·have : (q : Int) * 1 ≤ (q : Int) * t := Int.mul_le_mul_of_nonneg_left (by omega) (by omega)
   omega
open Classical in
/-- HOW MANY FLOWS: q to the number of circuits, where every part's sum is 0; none where one is not. -/
theorem Gf_eq (hq : 0 < q) {s : Nat} : ∀ (k : Nat) (d : Nat → Int), Ends N E k → Gf N q E s k d = if ∀ L, (q : Int) ∣ cs N E s k d L then (q : Int) ^ nu E s k else 0 := by
 intro k
 induction k with
 | zero =>
  intro d _
  simp only [Gf, nu, Int.pow_zero]
  have e : ∀ L, cs N E s 0 d L = if L < N then d L else 0 := fun L => by
   unfold cs
   by_cases h : L < N
   ·rw [if_pos h, ← sm_single h (d L)]
    exact sm_congr fun x _ => by simp only [lab]; by_cases q : x = L <;> simp [q]
   ·rw [if_neg h]
    exact sm_zero fun x hx => if_neg (by simp only [lab]; omega)
  by_cases h : ∀ x, x < N → (q : Int) ∣ d x
  ·rw [if_pos h, if_pos]
   intro L; rw [e]; split
   ·exact h L ‹_›
   ·exact ⟨0, by simp⟩
  ·rw [if_neg h, if_neg]
   intro h2; exact h fun x hx => by have := h2 x; rwa [e, if_pos hx] at this
 | succ k ih =>
  intro d hE
  have hE' : Ends N E k := fun i hi => hE i (by omega)
  obtain ⟨hu, hv⟩ := hE k (by omega)
  have ih' := fun d => ih d hE'
  simp only [Gf]
  by_cases hb : s.testBit k = true
  ·rw [if_pos hb]
   by_cases hl : lab E s k (eU E k) = lab E s k (eV E k)
   ·have e1 : ∀ a : Nat, Gf N q E s k (bp E k a d) = Gf N q E s k d := fun a => by
     rw [ih', ih']
     have : ∀ L, cs N E s k (bp E k a d) L = cs N E s k d L := fun L => by rw [cs_bp hu hv, hl]; omega
     simp only [this]
    rw [sm_congr fun a _ => e1 a, sm_const, ih']
    have e2 : ∀ L, cs N E s (k + 1) d L = cs N E s k d L := fun L => by unfold cs; rw [lab_keep fun h => h.2 hl]
    simp only [e2]
    have e3 : nu E s (k + 1) = nu E s k + 1 := by simp only [nu]; rw [if_pos ⟨hb, hl⟩]
    rw [e3]
    split
    ·rw [Int.pow_succ, Int.mul_comm]
    ·simp
   ·have e3 : nu E s (k + 1) = nu E s k := by simp only [nu]; rw [if_neg fun h => hl h.2]
    rw [e3]
    have hc : ∀ (a : Nat) (L : Nat), cs N E s k (bp E k a d) L = cs N E s k d L + (if lab E s k (eU E k) = L then (a : Int) else 0) - (if lab E s k (eV E k) = L then (a : Int) else 0) := fun a L => cs_bp hu hv
    have hm := fun L => cs_merge (N := N) (d := d) (L := L) hb hl
    generalize lab E s k (eU E k) = lu at *
    generalize lab E s k (eV E k) = lv at *
    by_cases hz : ∀ L, (q : Int) ∣ cs N E s (k + 1) d L
    ·rw [if_pos hz, sm_congr (g := fun a => if (q : Int) ∣ cs N E s k d lu + (a : Int) then (q : Int) ^ nu E s k else 0) fun a _ => ?_, sm_one hq]
     rw [ih']
     have iff : (∀ L, (q : Int) ∣ cs N E s k (bp E k a d) L) ↔ (q : Int) ∣ cs N E s k d lu + (a : Int) := by
      constructor
      ·intro h
       have := h lu
       rw [hc, if_pos rfl, if_neg fun e => hl e.symm] at this
       simpa using this
      ·intro h L
       rw [hc]
       by_cases h1 : lu = L
       ·subst h1; rw [if_pos rfl, if_neg fun e => hl e.symm]; simpa using h
       ·rw [if_neg h1]
        by_cases h2 : lv = L
        ·subst h2
         rw [if_pos rfl]
         have h5 := hz lv
         rw [hm, if_neg fun e => hl e.symm, if_pos rfl] at h5
         have h6 := Int.dvd_sub h5 h
         have e : cs N E s k d lu + cs N E s k d lv - (cs N E s k d lu + (a : Int)) = cs N E s k d lv + 0 - (a : Int) := by omega
         rwa [e] at h6
        ·rw [if_neg h2]
         have h5 := hz L
         rw [hm, if_neg fun e => h1 e.symm, if_neg fun e => h2 e.symm] at h5
         simpa using h5
     simp only [iff]
    ·rw [if_neg hz]
     refine sm_zero fun a _ => ?_
     rw [ih', if_neg]
     intro h
     refine hz fun L => ?_
     rw [hm]
     by_cases h1 : L = lu
     ·rw [if_pos h1]; exact ⟨0, by simp⟩
     ·rw [if_neg h1]
      by_cases h2 : L = lv
      ·rw [if_pos h2]
       have h3 := h lu
       have h4 := h lv
       rw [hc, if_pos rfl, if_neg fun e => hl e.symm] at h3
       rw [hc, if_neg hl, if_pos rfl] at h4
       have h5 := Int.dvd_add h3 h4
       have e : cs N E s k d lu + (a : Int) - 0 + (cs N E s k d lv + 0 - (a : Int)) = cs N E s k d lu + cs N E s k d lv := by omega
       rwa [e] at h5
      ·rw [if_neg h2]
       have h3 := h L
       rw [hc, if_neg fun e => h1 e.symm, if_neg fun e => h2 e.symm] at h3
       simpa using h3
  ·rw [if_neg hb, ih']
   have e2 : ∀ L, cs N E s (k + 1) d L = cs N E s k d L := fun L => by unfold cs; rw [lab_keep fun h => hb h.1]
   have e3 : nu E s (k + 1) = nu E s k := by simp only [nu]; rw [if_neg fun h => hb h.1]
   simp only [e2, e3]
theorem Gf_nn {s : Nat} : ∀ (k : Nat) (d : Nat → Int), 0 ≤ Gf N q E s k d := by
 intro k
 induction k with
 | zero => intro d; simp only [Gf]; split <;> omega
 | succ k ih =>
  intro d; simp only [Gf]; split
  ·have := sm_le (n := q) (f := fun _ => 0) (g := fun a => Gf N q E s k (bp E k a d)) fun a _ => ih _
   rw [sm_zero fun _ _ => rfl] at this; exact this
  ·exact ih d
theorem Gf_mono (hq : 0 < q) {s t : Nat} : ∀ (k : Nat) (d : Nat → Int), (∀ i, i < k → s.testBit i = true → t.testBit i = true) → Gf N q E s k d ≤ Gf N q E t k d := by
 intro k
 induction k with
 | zero => intro d _; exact Int.le_refl _
 | succ k ih =>
  intro d h
  have ih' := fun d => ih d fun i hi => h i (by omega)
  simp only [Gf]
  by_cases hs : s.testBit k = true
  ·rw [if_pos hs, if_pos (h k (by omega) hs)]
   exact sm_le fun a _ => ih' _
  ·rw [if_neg hs]
   split
   ·obtain ⟨p, rfl⟩ : ∃ p, q = p + 1 := ⟨q - 1, by omega⟩
    rw [sm_front]
    have h0 := ih' d
    have h1 := sm_le (n := p) (f := fun _ => 0) (g := fun a => Gf N (p + 1) E t k (bp E k ((a + 1 : Nat) : Int) d)) fun a _ => Gf_nn _ _
    rw [sm_zero fun _ _ => rfl] at h1
    have e : bp E k ((0 : Nat) : Int) d = d := bp_zero E k d
    rw [e]; omega
   ·exact ih' d
open Classical in
theorem Gf_none {s k : Nat} (hq : 0 < q) (hE : Ends N E k) : Gf N q E s k (fun _ => 0) = (q : Int) ^ nu E s k := by
 rw [Gf_eq hq k _ hE, if_pos]
 intro L
 unfold cs
 rw [sm_zero fun x _ => by simp]
 exact ⟨0, by simp⟩
theorem nu_mono {s t k : Nat} (hE : Ends N E k) (h : ∀ i, i < k → s.testBit i = true → t.testBit i = true) : nu E s k ≤ nu E t k := by
 have := Gf_mono (N := N) (E := E) (q := 2) (by omega) k (fun _ => 0) h
 rw [Gf_none (by omega) hE, Gf_none (by omega) hE] at this
 have h2 : 2 ^ nu E s k ≤ 2 ^ nu E t k := by
  have h3 : ((2 ^ nu E s k : Nat) : Int) ≤ ((2 ^ nu E t k : Nat) : Int) := by push_cast; exact this
  omega
 exact (Nat.pow_le_pow_iff_right (by omega)).1 h2
/-- INCLUSION AND EXCLUSION. -/
theorem NZ_eq (hq : 0 < q) : ∀ (k : Nat) (d : Nat → Int), NZ N q E k d = sm (2 ^ k) fun s => sg s k * Gf N q E s k d := by
 intro k
 induction k with
 | zero => intro d; simp [NZ, sm, sg]
 | succ k ih =>
  intro d
  obtain ⟨p, rfl⟩ : ∃ p, q = p + 1 := ⟨q - 1, by omega⟩
  have e0 : NZ N (p + 1) E (k + 1) d = sm (p + 1) (fun a => NZ N (p + 1) E k (bp E k (a : Int) d)) - NZ N (p + 1) E k d := by
   rw [sm_front]
   have e : bp E k ((0 : Nat) : Int) d = d := bp_zero E k d
   rw [e]
   show sm p _ = _
   omega
  rw [e0]
  have e1 : 2 ^ (k + 1) = 2 ^ k + 2 ^ k := by omega
  rw [e1, sm_plus (2 ^ k) (2 ^ k)]
  have e2 : sm (2 ^ k) (fun s => sg s (k + 1) * Gf N (p + 1) E s (k + 1) d) = - NZ N (p + 1) E k d := by
   rw [ih, ← Int.neg_one_mul, ← sm_mulf]
   refine sm_congr fun s hs => ?_
   have hb : s.testBit k = false := Nat.testBit_lt_two_pow hs
   simp only [sg, Gf, hb]
   simp [Int.neg_mul]
  have e3 : sm (2 ^ k) (fun s => sg (2 ^ k + s) (k + 1) * Gf N (p + 1) E (2 ^ k + s) (k + 1) d) = sm (p + 1) (fun a => NZ N (p + 1) E k (bp E k (a : Int) d)) := by
   rw [sm_congr (n := p + 1) fun a _ => ih (bp E k (a : Int) d), sm_swap]
   refine sm_congr fun s hs => ?_
   have hb : (2 ^ k + s).testBit k = true := by rw [Nat.testBit_two_pow_add_eq, Nat.testBit_lt_two_pow hs]; rfl
   have hlow : ∀ i, i < k → (2 ^ k + s).testBit i = s.testBit i := fun i hi => Nat.testBit_two_pow_add_gt hi s
   simp only [sg, Gf, hb, if_true]
   rw [sg_congr hlow, ← sm_mulf]
   exact sm_congr fun a _ => by rw [Gf_congr hlow]
  rw [e2, e3]; omega
/-- What the first k digits of a code change. -/
def dC (E : List (Int × Int)) (p C : Nat) : Nat → Nat → Int
 | 0 => fun _ => 0
 | k + 1 => bp E k (1 + (((C / p ^ k) % p : Nat) : Int)) (dC E p C k)
theorem dC_low {p a c k : Nat} (hp : 0 < p) : ∀ {j : Nat}, j ≤ k → dC E p (a * p ^ k + c) j = dC E p c j := by
 intro j
 induction j with
 | zero => intro _; rfl
 | succ j ih =>
  intro h
  simp only [dC]
  rw [ih (by omega)]
  have e : (a * p ^ k + c) / p ^ j % p = c / p ^ j % p := by
   obtain ⟨t, rfl⟩ : ∃ t, k = j + 1 + t := ⟨k - (j + 1), by omega⟩
   have h1 : a * p ^ (j + 1 + t) + c = p ^ j * (p * (a * p ^ t)) + c := by
    rw [Nat.pow_add, Nat.pow_succ]
    congr 1
    rw [Nat.mul_comm (p ^ j * p * p ^ t) |> fun h => (show a * (p ^ j * p * p ^ t) = p ^ j * (p * (a * p ^ t)) by simp only [Nat.mul_comm, Nat.mul_left_comm, Nat.mul_assoc])]
   rw [h1, Nat.mul_add_div (Nat.pow_pos hp), Nat.mul_add_mod]
  rw [e]
open Classical in
/-- The codes' count. -/
theorem cN_eq {p : Nat} : ∀ (k : Nat) (d : Nat → Int), sm (p ^ k) (fun C => if ∀ x, x < N → ((p + 1 : Nat) : Int) ∣ d x + dC E p C k x then 1 else 0) = NZ N (p + 1) E k d := by
 intro k
 induction k with
 | zero => intro d; simp [NZ, sm, Gf, dC]
 | succ k ih =>
  intro d
  rw [Nat.pow_succ, Nat.mul_comm, sm_mulr]
  show _ = sm p fun a => NZ N (p + 1) E k (bp E k ((a + 1 : Nat) : Int) d)
  refine sm_congr fun a ha => ?_
  rw [← ih]
  refine sm_congr fun c hc => ?_
  have e : dC E p (a * p ^ k + c) (k + 1) = bp E k ((a + 1 : Nat) : Int) (dC E p c k) := by
   simp only [dC]
   rw [dC_low (by omega) (Nat.le_refl k)]
   have h1 : (a * p ^ k + c) / p ^ k % p = a := by
    rw [Nat.mul_comm, Nat.mul_add_div (Nat.pow_pos (by omega)), Nat.div_eq_of_lt hc, Nat.add_zero, Nat.mod_eq_of_lt ha]
   rw [h1]
   congr 1
   push_cast; omega
  have e2 : ∀ x, d x + dC E p (a * p ^ k + c) (k + 1) x = bp E k ((a + 1 : Nat) : Int) d x + dC E p c k x := fun x => by
   rw [e]; unfold bp; omega
  simp only [e2]
theorem bit_full {i k : Nat} (h : i < k) : (2 ^ k - 1).testBit i = true := by rw [Nat.testBit_two_pow_sub_one]; exact decide_eq_true h
open Classical in
/-- THE LAW: the sum over the sets of edges is the number of the codes that settle. -/
theorem flows {p m : Nat} (hE : Ends N E m) : sm (2 ^ m) (fun s => sg s m * ((p + 1 : Nat) : Int) ^ nu E s m) = sm (p ^ m) (fun C => if ∀ x, x < N → ((p + 1 : Nat) : Int) ∣ dC E p C m x then 1 else 0) := by
 have h1 := cN_eq (N := N) (E := E) (p := p) m (fun _ => 0)
 rw [NZ_eq (by omega)] at h1
 rw [sm_congr (g := fun s => sg s m * Gf N (p + 1) E s m fun _ => 0) fun s _ => by rw [Gf_none (by omega) hE], ← h1]
 exact sm_congr fun C _ => by simp only [Int.zero_add]
end Go.SH
