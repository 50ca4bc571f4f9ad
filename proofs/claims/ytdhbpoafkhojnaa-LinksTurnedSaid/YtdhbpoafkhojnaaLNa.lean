/-
  Flows: what goes through a cut. Conditions: none.
-/
import Derived.Test.YtdhbpoafkhojnaaLM
set_option linter.unusedSimpArgs false
set_option linter.unusedVariables false
namespace Go.SH
open Go Go.AX

def sm : Nat → (Nat → Int) → Int
  | 0, _ => 0
  | n + 1, f => sm n f + f n
theorem sm_congr {f g : Nat → Int} : ∀ {n : Nat}, (∀ i, i < n → f i = g i) → sm n f = sm n g
  | 0, _ => rfl
  | n + 1, h => by rw [sm, sm, sm_congr fun i hi => h i (by omega), h n (by omega)]
theorem sm_add (f g : Nat → Int) : ∀ n, sm n (fun i => f i + g i) = sm n f + sm n g
  | 0 => rfl
  | n + 1 => by simp only [sm]; rw [sm_add f g n]; omega
theorem sm_zero {f : Nat → Int} : ∀ {n : Nat}, (∀ i, i < n → f i = 0) → sm n f = 0
  | 0, _ => rfl
  | n + 1, h => by simp only [sm]; rw [sm_zero fun i hi => h i (by omega), h n (by omega)]; rfl
theorem sm_le {f g : Nat → Int} : ∀ {n : Nat}, (∀ i, i < n → f i ≤ g i) → sm n f ≤ sm n g
  | 0, _ => Int.le_refl _
  | n + 1, h => by
    simp only [sm]
    have := sm_le (n := n) fun i hi => h i (by omega)
    have := h n (by omega)
    omega
theorem sm_one {f : Nat → Int} {k : Nat} : ∀ {n : Nat}, k < n → (∀ i, i < n → i ≠ k → f i = 0) → sm n f = f k
  | 0, h, _ => by omega
  | n + 1, h, hz => by
    simp only [sm]
    rcases Nat.lt_succ_iff_lt_or_eq.1 h with q | q
    · rw [sm_one q fun i hi hn => hz i (by omega) hn, hz n (by omega) (by omega)]; omega
    · subst q
      rw [sm_zero fun i hi => hz i (by omega) (by omega)]; omega
theorem sm_comm (f : Nat → Nat → Int) (m : Nat) : ∀ n, sm n (fun i => sm m (fun j => f i j)) = sm m (fun j => sm n (fun i => f i j))
  | 0 => (sm_zero fun _ _ => rfl).symm
  | n + 1 => by simp only [sm]; rw [sm_comm f m n, ← sm_add]
theorem sm_nn {f : Nat → Int} {n : Nat} (h : ∀ i, i < n → 0 ≤ f i) : 0 ≤ sm n f := by
  have := sm_le (f := fun _ => 0) h
  rw [sm_zero fun _ _ => rfl] at this
  exact this
/-- What may go out of a set. -/
def outS (m : Nat) (p : Nat → Nat → Int) (S : Nat → Bool) : Int := sm m (fun i => if S i = true then sm m (fun j => if S j = true then 0 else p i j) else 0)
def innS (m : Nat) (p : Nat → Nat → Int) (S : Nat → Bool) : Int := sm m (fun i => sm m (fun j => if S i = true ∧ S j = true then p i j else 0))
theorem rows_split (m : Nat) (p : Nat → Nat → Int) (S : Nat → Bool) : sm m (fun i => if S i = true then sm m (p i) else 0) = outS m p S + innS m p S := by
  unfold outS innS
  rw [← sm_add]
  refine sm_congr fun i hi => ?_
  by_cases c : S i = true
  · simp only [c, if_true, true_and]
    rw [← sm_add]
    refine sm_congr fun j hj => ?_
    by_cases d : S j = true
    · simp [d]
    · simp [d]
  · rw [if_neg c, if_neg c, sm_zero fun j hj => if_neg (fun w => c w.1)]; rfl
theorem inn_sym {m : Nat} {p q : Nat → Nat → Int} (S : Nat → Bool) (h : ∀ i, i < m → ∀ j, j < m → p i j + p j i = q i j + q j i) : innS m p S = innS m q S := by
  have two : ∀ r : Nat → Nat → Int, innS m r S + innS m r S = sm m (fun i => sm m (fun j => if S i = true ∧ S j = true then r i j + r j i else 0)) := fun r => by
    have e : innS m r S = sm m (fun i => sm m (fun j => if S j = true ∧ S i = true then r j i else 0)) := by
      unfold innS; rw [sm_comm]
    rw [show innS m r S + innS m r S = innS m r S + sm m (fun i => sm m (fun j => if S j = true ∧ S i = true then r j i else 0)) by rw [← e]]
    unfold innS
    rw [← sm_add]
    refine sm_congr fun i hi => ?_
    rw [← sm_add]
    refine sm_congr fun j hj => ?_
    by_cases c : S i = true ∧ S j = true
    · rw [if_pos c, if_pos ⟨c.2, c.1⟩, if_pos c]
    · rw [if_neg c, if_neg (fun w => c ⟨w.2, w.1⟩), if_neg c]; rfl
  have a := two p
  have b := two q
  rw [sm_congr (g := fun i => sm m (fun j => if S i = true ∧ S j = true then q i j + q j i else 0)) fun i hi => sm_congr fun j hj => by rw [h i hi j hj]] at a
  omega
/-- What goes through is the same for each cut. -/
theorem cut_val {m : Nat} {p p0 : Nat → Nat → Int} {n : Int} (hm : 2 ≤ m) (hs : ∀ i, i < m → ∀ j, j < m → p i j + p j i = p0 i j + p0 j i)
    (hr : ∀ i, i < m → sm m (p i) = sm m (p0 i) + ((if i = 0 then - n else 0) + (if i = 1 then n else 0))) {S : Nat → Bool} (h0 : S 0 = true) (h1 : S 1 = false) : outS m p0 S = n + outS m p S := by
  have a := rows_split m p S
  have b := rows_split m p0 S
  have c := inn_sym S hs
  have e : sm m (fun i => if S i = true then sm m (p i) else 0) = sm m (fun i => if S i = true then sm m (p0 i) else 0) + - n := by
    have f : sm m (fun i => if S i = true then ((if i = 0 then - n else 0) + (if i = 1 then n else 0)) else 0) = - n := by
      rw [sm_one (k := 0) (by omega) fun i hi hne => ?_]
      · simp [h0]
      · by_cases w : i = 1
        · subst w; simp [h1]
        · simp [hne, w]
    rw [← f, ← sm_add]
    refine sm_congr fun i hi => ?_
    by_cases w : S i = true
    · rw [if_pos w, if_pos w, if_pos w, hr i hi]
    · rw [if_neg w, if_neg w, if_neg w]; rfl
  omega
theorem out_nn {m : Nat} {p : Nat → Nat → Int} (h : ∀ i, i < m → ∀ j, j < m → 0 ≤ p i j) (S : Nat → Bool) : 0 ≤ outS m p S := sm_nn fun i hi => by
  split
  · exact sm_nn fun j hj => by
      split
      · exact Int.le_refl _
      · exact h i hi j hj
  · exact Int.le_refl _
theorem out_zero {m : Nat} {p : Nat → Nat → Int} {S : Nat → Bool} (h : ∀ i, i < m → ∀ j, j < m → S i = true → S j = false → p i j = 0) : outS m p S = 0 := sm_zero fun i hi => by
  by_cases c : S i = true
  · rw [if_pos c]
    refine sm_zero fun j hj => ?_
    by_cases d : S j = true
    · rw [if_pos d]
    · rw [if_neg d]; exact h i hi j hj c (by simpa using d)
  · rw [if_neg c]
/-- A flow of n that cannot be made greater: the least cut's. -/
structure Flow (m : Nat) (p0 p : Nat → Nat → Int) (n : Int) : Prop where
  nn : ∀ i, i < m → ∀ j, j < m → 0 ≤ p i j
  sym : ∀ i, i < m → ∀ j, j < m → p i j + p j i = p0 i j + p0 j i
  row : ∀ i, i < m → sm m (p i) = sm m (p0 i) + ((if i = 0 then - n else 0) + (if i = 1 then n else 0))
def Least (m : Nat) (p0 : Nat → Nat → Int) (n : Int) : Prop := (∀ S : Nat → Bool, S 0 = true → S 1 = false → n ≤ outS m p0 S) ∧ ∃ S : Nat → Bool, S 0 = true ∧ S 1 = false ∧ outS m p0 S = n
theorem Flow.le {m : Nat} {p0 p : Nat → Nat → Int} {n : Int} (hm : 2 ≤ m) (h : Flow m p0 p n) (S : Nat → Bool) (h0 : S 0 = true) (h1 : S 1 = false) : n ≤ outS m p0 S := by
  rw [cut_val hm h.sym h.row h0 h1]
  have := out_nn h.nn S
  omega
theorem Flow.least {m : Nat} {p0 p : Nat → Nat → Int} {n : Int} (hm : 2 ≤ m) (h : Flow m p0 p n) {S : Nat → Bool} (h0 : S 0 = true) (h1 : S 1 = false) (hz : ∀ i, i < m → ∀ j, j < m → S i = true → S j = false → p i j = 0) : Least m p0 n := by
  refine ⟨fun T a b => h.le hm T a b, S, h0, h1, ?_⟩
  rw [cut_val hm h.sym h.row h0 h1, out_zero hz]; omega
theorem Flow.start {m : Nat} {p0 : Nat → Nat → Int} (h : ∀ i, i < m → ∀ j, j < m → 0 ≤ p0 i j) : Flow m p0 p0 0 := ⟨h, fun _ _ _ _ => rfl, fun i hi => by simp⟩
theorem Least.eq {m m' : Nat} {p q : Nat → Nat → Int} {n k : Int} (h : Least m p n) (h' : Least m' q k) (a : ∀ S : Nat → Bool, S 0 = true → S 1 = false → ∃ T : Nat → Bool, T 0 = true ∧ T 1 = false ∧ outS m' q T ≤ outS m p S)
    (b : ∀ S : Nat → Bool, S 0 = true → S 1 = false → ∃ T : Nat → Bool, T 0 = true ∧ T 1 = false ∧ outS m p T ≤ outS m' q S) : n = k := by
  obtain ⟨h1, S, s0, s1, s2⟩ := h
  obtain ⟨h2, T, t0, t1, t2⟩ := h'
  obtain ⟨U, u0, u1, u2⟩ := a S s0 s1
  obtain ⟨V, v0, v1, v2⟩ := b T t0 t1
  have := h1 V v0 v1
  have := h2 U u0 u1
  omega
end Go.SH
