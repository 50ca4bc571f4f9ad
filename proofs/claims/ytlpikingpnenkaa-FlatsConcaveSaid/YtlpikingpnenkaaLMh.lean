/-
 The spaces' leading monomials, counted. Conditions: vertices below 11.
-/
import Derived.Test.YtlpikingpnenkaaLMg
set_option linter.unusedSimpArgs false
set_option linter.unusedVariables false
namespace Go.SH
open Go Go.AX
/-- How many monomials of degree k in e variables. -/
def nM : Nat → Nat → Nat
 | 0, 0 => 1
 | 0, _ + 1 => 0
 | e + 1, k => su (fun a => nM e (k - a)) k
theorem nM_zero : ∀ e, nM e 0 = 1
 | 0 => rfl
 | e + 1 => by simp only [nM, su]; exact nM_zero e
theorem nM_step (e k : Nat) : nM (e + 1) (k + 1) = nM e (k + 1) + nM (e + 1) k := by
 show su _ (k + 1) = _ + su _ k
 rw [su_head]
 congr 1
 exact su_congr fun a ha => by rw [show k + 1 - (a + 1) = k - a by omega]
theorem ml_len : ∀ (V : List Nat) (k : Nat), (ml V k).length = nM V.length k
 | [], 0 => rfl
 | [], _ + 1 => rfl
 | v :: V, k => by
  simp only [ml, List.length_cons, nM]
  have key : ∀ n, ((List.range (n + 1)).flatMap fun a => (ml V (k - a)).map fun g => upd g v a).length = su (fun a => nM V.length (k - a)) n := by
   intro n
   induction n with
   | zero =>
    show (List.flatMap _ [0]).length = _
    simp only [List.flatMap_cons, List.flatMap_nil, List.append_nil, List.length_map, su]; exact ml_len V (k - 0)
   | succ n ih =>
    rw [List.range_succ (n := n + 1), List.flatMap_append, List.length_append, ih]
    simp only [List.flatMap_cons, List.flatMap_nil, List.append_nil, List.length_map, su, ml_len V]
  exact key k
/-- Sums over i < m. -/
def s0 (f : Nat → Nat) : Nat → Nat
 | 0 => 0
 | n + 1 => s0 f n + f n
theorem s0_congr {f g : Nat → Nat} : ∀ {n : Nat}, (∀ i, i < n → f i = g i) → s0 f n = s0 g n
 | 0, _ => rfl
 | n + 1, h => by simp only [s0]; rw [s0_congr fun i hi => h i (by omega), h n (by omega)]
theorem s0_add (f g : Nat → Nat) : ∀ n, s0 (fun i => f i + g i) n = s0 f n + s0 g n
 | 0 => rfl
 | n + 1 => by simp only [s0]; rw [s0_add f g n]; omega
/-- g and one more of each of these. -/
def ups (g : Nat → Nat) : List Nat → Nat → Nat
 | [], i => g i
 | r :: R, i => up (ups g R) r i
theorem ups_at (g : Nat → Nat) : ∀ {R : List Nat}, R.Nodup → ∀ i, ups g R i = g i + if i ∈ R then 1 else 0
 | [], _, i => by simp [ups]
 | r :: R, hd, i => by
  have hd' := List.nodup_cons.1 hd
  simp only [ups, up, upd]
  rw [ups_at g hd'.2, ups_at g hd'.2]
  by_cases c : i = r
  ·subst c
   rw [if_pos rfl, if_pos List.mem_cons_self, if_neg hd'.1]
  ·rw [if_neg c]
   by_cases q : i ∈ R
   ·rw [if_pos q, if_pos (List.mem_cons_of_mem _ q)]
   ·rw [if_neg q, if_neg fun w => (List.mem_cons.1 w).elim c q]
theorem ups_up (g : Nat → Nat) {R : List Nat} (hd : R.Nodup) (u : Nat) : ups (up g u) R = up (ups g R) u := by
 funext i
 rw [ups_at _ hd]
 unfold up upd
 by_cases c : i = u
 ·subst c
  rw [if_pos rfl, if_pos rfl, ups_at _ hd]; omega
 ·rw [if_neg c, if_neg c, ups_at _ hd]
theorem ups_Mo {V : List Nat} {g : Nat → Nat} (hV : V.Nodup) : ∀ {R : List Nat} {k : Nat}, R.Nodup → (∀ v, v ∈ R → v ∈ V) → (Mo V (k + R.length) (ups g R) ↔ Mo V k g)
 | [], k, _, _ => by
  have : ups g [] = g := rfl
  rw [this]; exact Iff.rfl
 | r :: R, k, hd, hs => by
  have hd' := List.nodup_cons.1 hd
  have ih := ups_Mo (g := g) (V := V) hV (R := R) (k := k) hd'.2 fun v hv => hs v (List.mem_cons_of_mem _ hv)
  have hr := hs r List.mem_cons_self
  have e : ups g (r :: R) = up (ups g R) r := rfl
  rw [e, ← ih]
  have hset := dg_set (g := ups g R) (ups g R r + 1) hr hV
  constructor
  ·intro h
   obtain ⟨_, q, e2, h2⟩ := Mo_up hV h
   have : q = k + R.length := by simp only [List.length_cons] at e2; omega
   rw [← this]; exact h2
  ·intro h
   refine ⟨fun i hi => ?_, ?_⟩
   ·unfold up
    rw [upd_ne _ _ (by rintro rfl; exact hi hr)]; exact h.1 i hi
   ·unfold up
    have := h.2
    simp only [List.length_cons]; omega
section
variable {V : List Nat} {m d : Nat} {F R : Nat → List Nat}
/-- What the restrictions say: so many leading monomials. -/
def Un (m d : Nat) (R : Nat → List Nat) (j k : Nat) : Nat := s0 (fun i => if (R i).length ≤ k then nM (d - j) (k - (R i).length) else 0) m
theorem Un_step {j : Nat} (hj : j < d) (k : Nat) : Un m d R j (k + 1) = Un m d R (j + 1) (k + 1) + Un m d R j k := by
 unfold Un
 rw [← s0_add]
 refine s0_congr fun i _ => ?_
 obtain ⟨e, he⟩ : ∃ e, d - j = e + 1 := ⟨d - j - 1, by omega⟩
 rw [he, show d - (j + 1) = e by omega]
 rcases Nat.lt_or_ge k (R i).length with q | q
 ·rw [if_neg (show ¬ (R i).length ≤ k by omega)]
  by_cases w : (R i).length ≤ k + 1
  ·rw [if_pos w, if_pos w, show k + 1 - (R i).length = 0 by omega, nM_zero, nM_zero]
  ·rw [if_neg w, if_neg w]
 ·rw [if_pos (show (R i).length ≤ k + 1 by omega), if_pos (show (R i).length ≤ k + 1 by omega), if_pos q, show k + 1 - (R i).length = (k - (R i).length) + 1 by omega, nM_step]
theorem Un_zero {j : Nat} : Un m d R j 0 = Un m d R (j + 1) 0 := by
 unfold Un
 refine s0_congr fun i _ => ?_
 rw [Nat.zero_sub, nM_zero, nM_zero]
/-- The functionals of a facet: values at the restriction times monomials in the other variables. -/
def fun1 (F R : Nat → List Nat) (j k i : Nat) : List (((Nat → Nat) → F11) → F11) := if (R i).length ≤ k then (ml ((F i).drop j) (k - (R i).length)).map fun g c => c (ups g (R i)) else []
def funs (F R : Nat → List Nat) (j k : Nat) : Nat → List (((Nat → Nat) → F11) → F11)
 | 0 => []
 | n + 1 => funs F R j k n ++ fun1 F R j k n
theorem funs_len (h : Shl V m d F R) (j k : Nat) : ∀ n, n ≤ m → (funs F R j k n).length = s0 (fun i => if (R i).length ≤ k then nM (d - j) (k - (R i).length) else 0) n
 | 0, _ => rfl
 | n + 1, hn => by
  simp only [funs, s0, List.length_append]
  rw [funs_len h j k n (by omega)]
  congr 1
  unfold fun1
  split
  ·rw [List.length_map, ml_len, List.length_drop, h.len n (by omega)]
  ·rfl
theorem funs_mem {j k : Nat} {φ : ((Nat → Nat) → F11) → F11} : ∀ {n : Nat}, φ ∈ funs F R j k n ↔ ∃ i, i < n ∧ φ ∈ fun1 F R j k i
 | 0 => by simp [funs]
 | n + 1 => by
  simp only [funs, List.mem_append]
  rw [funs_mem]
  constructor
  ·rintro (⟨i, h1, h2⟩ | h)
   ·exact ⟨i, by omega, h2⟩
   ·exact ⟨n, by omega, h⟩
  ·rintro ⟨i, h1, h2⟩
   rcases Nat.lt_or_ge i n with q | q
   ·exact .inl ⟨i, q, h2⟩
   ·rw [show i = n by omega] at h2; exact .inr h2
theorem funs_lin {j k n : Nat} : ∀ φ, φ ∈ funs F R j k n → Lin φ := fun φ hφ => by
 obtain ⟨i, _, h⟩ := funs_mem.1 hφ
 unfold fun1 at h
 split at h
 ·obtain ⟨g, _, rfl⟩ := List.mem_map.1 h
  exact ⟨rfl, fun _ _ => rfl, fun _ _ => rfl⟩
 ·cases h
/-- A support lies first in one facet. -/
theorem Shl.first (h : Shl V m d F R) {g : Nat → Nat} {i : Nat} (hi : i < m) (hs : Sp g (F i)) : ∃ l, l ≤ i ∧ Sp g (F l) ∧ ∀ v, v ∈ R l → 0 < g v := by
 induction i using Nat.strongRecOn with
 | ind i ih =>
  by_cases q : ∀ v, v ∈ R i → 0 < g v
  ·exact ⟨i, Nat.le_refl _, hs, q⟩
  ·obtain ⟨l, l1, l2⟩ := (h.new i hi g hs).2 q
   obtain ⟨l', a, b, c⟩ := ih l l1 (by omega) l2
   exact ⟨l', by omega, b, c⟩
end
end Go.SH
