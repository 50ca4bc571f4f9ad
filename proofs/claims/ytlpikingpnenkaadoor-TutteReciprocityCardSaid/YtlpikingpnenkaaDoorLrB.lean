/-
 Colourings that are the same on the edges of a set: how many; what the chromatic polynomial's coefficients say. Conditions: none.
-/
import Derived.Test.YtlpikingpnenkaaDoorLrA
set_option linter.unusedSimpArgs false
set_option linter.unusedVariables false
namespace Go.SH
open Go Go.AX
def smF (K : Nat) : Nat → ((Nat → Nat) → Int) → Int
 | 0, g => g fun _ => 0
 | n + 1, g => sm K fun a => smF K n fun f => g fun x => if x = n then a else f x
theorem dg_low {p a c k j : Nat} (hp : 0 < p) (h : j < k) : (a * p ^ k + c) / p ^ j % p = c / p ^ j % p := by
 obtain ⟨t, rfl⟩ : ∃ t, k = j + 1 + t := ⟨k - (j + 1), by omega⟩
 have h1 : a * p ^ (j + 1 + t) = p ^ j * (p * (a * p ^ t)) := by
  rw [Nat.pow_add, Nat.pow_succ]; simp only [Nat.mul_comm, Nat.mul_left_comm, Nat.mul_assoc]
 rw [h1, Nat.mul_add_div (Nat.pow_pos hp), Nat.mul_add_mod]
theorem smF_codes {K : Nat} (hK : 0 < K) : ∀ (n : Nat) (g : (Nat → Nat) → Int), sm (K ^ n) (fun C => g fun x => if x < n then C / K ^ x % K else 0) = smF K n g := by
 intro n
 induction n with
 | zero => intro g; simp [sm, smF]
 | succ n ih =>
  intro g
  rw [Nat.pow_succ, Nat.mul_comm, sm_mulr]
  simp only [smF]
  refine sm_congr fun a ha => ?_
  rw [← ih]
  refine sm_congr fun c hc => congrArg g (funext fun x => ?_)
  by_cases h : x = n
  ·subst h
   rw [if_pos (by omega), if_pos rfl, Nat.mul_comm, Nat.mul_add_div (Nat.pow_pos hK), Nat.div_eq_of_lt hc, Nat.add_zero, Nat.mod_eq_of_lt ha]
  ·rw [if_neg h]
   show _ = if x < n then c / K ^ x % K else 0
   by_cases q : x < n
   ·rw [if_pos (by omega), if_pos q, dg_low hK q]
   ·rw [if_neg (by omega), if_neg q]
theorem smF_congr {K : Nat} (hK : 0 < K) : ∀ {n : Nat} {g g' : (Nat → Nat) → Int}, (∀ f : Nat → Nat, (∀ x, f x < K) → g f = g' f) → smF K n g = smF K n g' := by
 intro n
 induction n with
 | zero => intro g g' h; exact h _ fun _ => hK
 | succ n ih =>
  intro g g' h
  exact sm_congr fun a ha => ih fun f hf => h _ fun x => by
   split
   ·exact ha
   ·exact hf x
theorem smF_swap {K : Nat} (m : Nat) : ∀ (n : Nat) (G : Nat → (Nat → Nat) → Int), sm m (fun t => smF K n (G t)) = smF K n fun f => sm m fun t => G t f := by
 intro n
 induction n with
 | zero => intro G; rfl
 | succ n ih =>
  intro G
  simp only [smF]
  rw [sm_swap]
  exact sm_congr fun a _ => ih _
theorem smF_one (K : Nat) : ∀ n, smF K n (fun _ => 1) = (K : Int) ^ n := by
 intro n
 induction n with
 | zero => rfl
 | succ n ih => simp only [smF]; rw [ih, sm_const, Int.pow_succ, Int.mul_comm]
theorem sm_rot {K : Nat} (hK : 0 < K) (Φ : Nat → Int) : sm K (fun a => Φ ((a + 1) % K)) = sm K Φ := by
 obtain ⟨p, rfl⟩ : ∃ p, K = p + 1 := ⟨K - 1, by omega⟩
 rw [sm_front p Φ]
 simp only [sm]
 rw [Nat.mod_self, sm_congr (g := fun i => Φ (i + 1)) fun a ha => by rw [Nat.mod_eq_of_lt (by omega)]]
 omega
theorem sm_rots {K : Nat} (hK : 0 < K) (Φ : Nat → Int) : ∀ c, sm K (fun a => Φ ((c + a) % K)) = sm K Φ := by
 intro c
 induction c with
 | zero => exact sm_congr fun a ha => by rw [Nat.zero_add, Nat.mod_eq_of_lt ha]
 | succ c ih =>
  rw [← ih, ← sm_rot hK fun a => Φ ((c + a) % K)]
  exact sm_congr fun a _ => by rw [Nat.add_mod_mod, show c + 1 + a = c + (a + 1) by omega]
theorem smF_shift {K : Nat} (hK : 0 < K) (P : Nat → Prop) [DecidablePred P] : ∀ (n : Nat) (g : (Nat → Nat) → Int), smF K n g = smF K n fun f => g fun x => if x < n ∧ P x then (f x + 1) % K else f x := by
 intro n
 induction n with
 | zero => intro g; simp [smF]
 | succ n ih =>
  intro g
  simp only [smF]
  have e : ∀ a, smF K n (fun f => g fun x => if x < n + 1 ∧ P x then ((if x = n then a else f x) + 1) % K else if x = n then a else f x) = smF K n fun f => g fun x => if x = n then (if P n then (a + 1) % K else a) else f x := fun a => by
   rw [ih fun f => g fun x => if x = n then (if P n then (a + 1) % K else a) else f x]
   congr 1
   funext f
   congr 1
   funext x
   by_cases h : x = n
   ·subst h
    simp
   ·have : (x < n + 1 ∧ P x) ↔ (x < n ∧ P x) := by constructor <;> (rintro ⟨a, b⟩; exact ⟨by omega, b⟩)
    simp only [this, if_neg h]
  rw [sm_congr (n := K) (f := fun a => smF K n (fun f => g fun x => if x < n + 1 ∧ P x then ((if x = n then a else f x) + 1) % K else if x = n then a else f x)) fun a _ => e a]
  by_cases h : P n
  ·simp only [if_pos h]
   exact (sm_rot hK fun b => smF K n fun f => g fun x => if x = n then b else f x).symm
  ·simp only [if_neg h]
/-- How many parts. -/
def pcn (N : Nat) (E : List (Int × Int)) (s : Nat) : Nat → Nat
 | 0 => N
 | k + 1 => if s.testBit k = true ∧ lab E s k (eU E k) ≠ lab E s k (eV E k) then pcn N E s k - 1 else pcn N E s k
variable {N K : Nat} {E : List (Int × Int)}
theorem Eq1_succ {α : Type} {s k : Nat} {h : Nat → α} : Eq1 E s (k + 1) h ↔ Eq1 E s k h ∧ (s.testBit k = true → h (eU E k) = h (eV E k)) := by
 constructor
 ·intro h1; exact ⟨fun i hi hb => h1 i (by omega) hb, fun hb => h1 k (by omega) hb⟩
 ·rintro ⟨h1, h2⟩ i hi hb
  rcases Nat.lt_or_ge i k with c | c
  ·exact h1 i c hb
  ·have : i = k := by omega
   subst this; exact h2 hb
theorem inj1 {a b K : Nat} (ha : a < K) (hb : b < K) : (a + 1) % K = (b + 1) % K ↔ a = b := by
 constructor
 ·intro h
  rcases Nat.lt_or_ge (a + 1) K with p | p <;> rcases Nat.lt_or_ge (b + 1) K with q | q
  ·rw [Nat.mod_eq_of_lt p, Nat.mod_eq_of_lt q] at h; omega
  ·rw [Nat.mod_eq_of_lt p, show b + 1 = K by omega, Nat.mod_self] at h; omega
  ·rw [Nat.mod_eq_of_lt q, show a + 1 = K by omega, Nat.mod_self] at h; omega
  ·omega
 ·rintro rfl; rfl
open Classical in
noncomputable def Zc (N K : Nat) (E : List (Int × Int)) (s k : Nat) : Int := smF K N fun f => if Eq1 E s k f then 1 else 0
open Classical in
theorem Zc_merge (hK : 0 < K) {s k : Nat} (hE : Ends N E (k + 1)) (hb : s.testBit k = true) (hne : lab E s k (eU E k) ≠ lab E s k (eV E k)) : (K : Int) * Zc N K E s (k + 1) = Zc N K E s k := by
 obtain ⟨hu, hv⟩ := hE k (by omega)
 have st : ∀ t, smF K N (fun f => if Eq1 E s k f ∧ (f (eV E k) + t) % K = f (eU E k) then (1 : Int) else 0) = smF K N (fun f => if Eq1 E s k f ∧ (f (eV E k) + (t + 1)) % K = f (eU E k) then (1 : Int) else 0) := fun t => by
  rw [smF_shift hK (fun x => lab E s k x = lab E s k (eV E k))]
  refine smF_congr hK fun f hf => ?_
  have e1 : Eq1 E s k (fun x => if x < N ∧ lab E s k x = lab E s k (eV E k) then (f x + 1) % K else f x) ↔ Eq1 E s k f := by
   unfold Eq1
   constructor <;> intro h i hi hbi
   ·have := h i hi hbi
    dsimp only at this
    obtain ⟨h1, h2⟩ := hE i (by omega)
    have hl := lab_eq (E := E) hi hbi
    by_cases q : lab E s k (eU E i) = lab E s k (eV E k)
    ·rw [if_pos ⟨h1, q⟩, if_pos ⟨h2, by rw [← hl]; exact q⟩] at this
     exact (inj1 (hf _) (hf _)).1 this
    ·rw [if_neg fun h => q h.2, if_neg fun h => q (by rw [hl]; exact h.2)] at this
     exact this
   ·have := h i hi hbi
    dsimp only
    obtain ⟨h1, h2⟩ := hE i (by omega)
    have hl := lab_eq (E := E) hi hbi
    by_cases q : lab E s k (eU E i) = lab E s k (eV E k)
    ·rw [if_pos ⟨h1, q⟩, if_pos ⟨h2, by rw [← hl]; exact q⟩, this]
    ·rw [if_neg fun h => q h.2, if_neg fun h => q (by rw [hl]; exact h.2), this]
  have e2 : ((f (eV E k) + 1) % K + t) % K = (f (eV E k) + (t + 1)) % K := by rw [Nat.mod_add_mod, show f (eV E k) + 1 + t = f (eV E k) + (t + 1) by omega]
  simp only [e1, hv, hne, true_and, and_true, and_false, if_true, if_false, e2]
 have all : ∀ t, smF K N (fun f => if Eq1 E s k f ∧ (f (eV E k) + t) % K = f (eU E k) then (1 : Int) else 0) = Zc N K E s (k + 1) := by
  intro t
  induction t with
  | zero =>
   refine smF_congr hK fun f hf => ?_
   rw [Nat.add_zero, Nat.mod_eq_of_lt (hf _)]
   have : Eq1 E s (k + 1) f ↔ Eq1 E s k f ∧ f (eV E k) = f (eU E k) := by rw [Eq1_succ]; exact ⟨fun h => ⟨h.1, (h.2 hb).symm⟩, fun h => ⟨h.1, fun _ => h.2.symm⟩⟩
   simp only [this]
  | succ t ih => rw [← st]; exact ih
 have h1 := smF_swap (K := K) K N fun t f => if Eq1 E s k f ∧ (f (eV E k) + t) % K = f (eU E k) then (1 : Int) else 0
 rw [sm_congr fun t _ => all t, sm_const] at h1
 rw [h1]
 refine smF_congr hK fun f hf => ?_
 by_cases c : Eq1 E s k f
 ·rw [if_pos c]
  have := sm_rots hK (fun a => if a = f (eU E k) then 1 else 0) (f (eV E k))
  rw [sm_single (hf _)] at this
  refine Eq.trans ?_ this
  exact sm_congr fun t _ => by simp only [c, true_and]
 ·rw [if_neg c]
  exact sm_zero fun t _ => if_neg fun h => c h.1
open Classical in
theorem Zc_eq (hK : 0 < K) {s : Nat} : ∀ k, Ends N E k → Zc N K E s k = (K : Int) ^ pcn N E s k := by
 intro k
 induction k with
 | zero =>
  intro _
  rw [← smF_one]
  exact smF_congr hK fun f _ => if_pos fun i hi => by omega
 | succ k ih =>
  intro hE
  have ih' := ih fun i hi => hE i (by omega)
  have same : (∀ f : Nat → Nat, Eq1 E s k f → s.testBit k = true → f (eU E k) = f (eV E k)) → Zc N K E s (k + 1) = Zc N K E s k := fun h => smF_congr hK fun f _ => by
   have : Eq1 E s (k + 1) f ↔ Eq1 E s k f := by rw [Eq1_succ]; exact ⟨fun q => q.1, fun q => ⟨q, h f q⟩⟩
   simp only [this]
  by_cases c : s.testBit k = true ∧ lab E s k (eU E k) ≠ lab E s k (eV E k)
  ·have hm := Zc_merge hK hE c.1 c.2
   rw [ih'] at hm
   simp only [pcn]
   rw [if_pos c]
   cases hp : pcn N E s k with
   | zero =>
    rw [hp, Int.pow_zero] at hm
    have h1 : (K : Int) = 1 := Int.eq_one_of_dvd_one (by omega) ⟨_, hm.symm⟩
    rw [h1, Int.one_mul] at hm
    rw [hm]; rfl
   | succ c =>
    rw [hp, Int.pow_succ, Int.mul_comm] at hm
    exact Int.eq_of_mul_eq_mul_right (by omega) hm
  ·simp only [pcn]
   rw [if_neg c, ← ih']
   refine same fun f hf hb => ?_
   have hl : lab E s k (eU E k) = lab E s k (eV E k) := Classical.not_not.1 fun q => c ⟨hb, q⟩
   rw [← hf.lab (eU E k), hl, hf.lab]
theorem pcn_pos {s k : Nat} (hE : Ends N E (k + 1)) (hb : s.testBit k = true) (hne : lab E s k (eU E k) ≠ lab E s k (eV E k)) : 1 ≤ pcn N E s k := by
 have h1 := Zc_merge (K := 2) (by omega) hE hb hne
 rw [Zc_eq (by omega) k fun i hi => hE i (by omega)] at h1
 rcases Nat.eq_zero_or_pos (pcn N E s k) with q | q
 ·rw [q, Int.pow_zero] at h1; omega
 ·exact q
theorem pcn_le (s : Nat) : ∀ k, pcn N E s k ≤ N := by
 intro k
 induction k with
 | zero => exact Nat.le_refl _
 | succ k ih => simp only [pcn]; split <;> omega
theorem sn_mul (a b : Nat) : sn a * sn b = sn (a + b) := by
 unfold sn; split <;> split <;> split <;> omega
theorem neg_pow (K c : Nat) : (-(K : Int)) ^ c = sn c * (K : Int) ^ c := by
 induction c with
 | zero => simp [sn]
 | succ c ih => rw [Int.pow_succ, ih, sn_succ, Int.pow_succ, Int.mul_neg, Int.neg_mul, Int.mul_assoc]
open Classical in
/-- STANLEY: orientations without rings, with a colouring of K colours that does not rise along them. -/
theorem stanley (hK : 0 < K) {m : Nat} (hE : Ends N E m) : sm (K ^ N) (fun C => Ro E (fun x => ((C / K ^ x % K : Nat) : Int)) m 0 fun _ => True) = sm (2 ^ m) fun s => sn (nu E s m) * (K : Int) ^ pcn N E s m := by
 rw [sm_congr fun C _ => Ro_all m, sm_swap]
 refine sm_congr fun s _ => ?_
 rw [← Zc_eq hK m hE]
 unfold Zc
 rw [← smF_codes hK, ← sm_mulf]
 refine sm_congr fun C _ => ?_
 have iff : Eq1 E s m (fun x => ((C / K ^ x % K : Nat) : Int)) ↔ Eq1 E s m (fun x => if x < N then C / K ^ x % K else 0) := by
  unfold Eq1
  constructor <;> intro h i hi hb
  ·have := h i hi hb
   obtain ⟨h1, h2⟩ := hE i hi
   dsimp only
   rw [if_pos h1, if_pos h2]
   exact Int.ofNat.inj this
  ·have := h i hi hb
   obtain ⟨h1, h2⟩ := hE i hi
   dsimp only at this
   rw [if_pos h1, if_pos h2] at this
   exact congrArg _ this
 by_cases c : Eq1 E s m (fun x => ((C / K ^ x % K : Nat) : Int))
 ·rw [if_pos c, if_pos (iff.1 c), Int.mul_one]
 ·rw [if_neg c, if_neg fun h => c (iff.2 h), Int.mul_zero]
end Go.SH
