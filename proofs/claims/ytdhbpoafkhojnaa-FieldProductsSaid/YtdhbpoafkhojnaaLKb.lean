/-
  Determinants modulo p: what is linear in each of n vectors, and nought where two neighbours are the same, is a sum of determinants (CAUCHY, BINET). Conditions: none.
-/
import Derived.Test.YtdhbpoafkhojnaaLKf
set_option linter.unusedSimpArgs false
set_option linter.unusedVariables false
set_option linter.unusedSectionVars false
namespace Go.SH
open Go Go.AX
section
variable {p : Nat} [NeZero p]
abbrev Vs (p : Nat) := Nat → Nat → Fin p

def up (v : Vs p) (i : Nat) (x : Nat → Fin p) : Vs p := fun k => if k = i then x else v k
theorem up_self (v : Vs p) (i : Nat) : up v i (v i) = v := by funext k; unfold up; split <;> simp_all
theorem up_at (v : Vs p) (i : Nat) (x : Nat → Fin p) : up v i x i = x := if_pos rfl
theorem up_ne (v : Vs p) {i k : Nat} (x : Nat → Fin p) (h : k ≠ i) : up v i x k = v k := if_neg h
theorem up_up (v : Vs p) (i : Nat) (x y : Nat → Fin p) : up (up v i x) i y = up v i y := by funext k; unfold up; split <;> rfl
theorem up_comm (v : Vs p) {i j : Nat} (h : i ≠ j) (x y : Nat → Fin p) : up (up v i x) j y = up (up v j y) i x := by
  funext k; unfold up; split <;> split <;> simp_all

/-- Linear in each of n vectors of m places, nought where neighbours are the same. -/
structure Alt (n m : Nat) (F : Vs p → Fin p) : Prop where
  congr : ∀ v w, (∀ i, i < n → ∀ j, j < m → v i j = w i j) → F v = F w
  lin : ∀ v i, i < n → ∀ (a : Fin p) (x y : Nat → Fin p), F (up v i fun j => a * x j + y j) = a * F (up v i x) + F (up v i y)
  adj : ∀ v i, i + 1 < n → (∀ j, j < m → v i j = v (i + 1) j) → F v = 0

theorem ra1 {x y : Fin p} (h : 1 * x + y = 0) : x = - y := by grind
theorem ra2 (a b c d : Fin p) : 1 * (1 * a + b) + (1 * c + d) = a + b + c + d := by grind
theorem ra4 {x : Fin p} (h : - x = 0) : x = 0 := by grind
theorem ra5 (x : Fin p) : - - x = x := by grind
theorem ra6 {x s y : Fin p} (h : s * y = - x) : x = - s * y := by grind
theorem ra7 (a b : Fin p) : a + b = b + a := by grind
theorem ra8 (a b : Fin p) : a * 0 + b = b := by grind
theorem ra9 (a : Fin p) : a = a + 0 := by grind
theorem ra10 (a b c : Fin p) : c + (a + b) = a + (b + c) := by grind
theorem ra3 {b c : Fin p} (h : 0 + b + (c + 0) = 0) : c = - b := by grind
variable {n m : Nat} {F : Vs p → Fin p}
theorem Alt.add (h : Alt n m F) (v : Vs p) {i : Nat} (hi : i < n) (x y : Nat → Fin p) : F (up v i fun j => x j + y j) = F (up v i x) + F (up v i y) := by
  have := h.lin v i hi 1 x y
  simp only [Fin.one_mul] at this
  exact this
theorem Alt.mul (h : Alt n m F) (v : Vs p) {i : Nat} (hi : i < n) (a : Fin p) (x : Nat → Fin p) : F (up v i fun j => a * x j) = a * F (up v i x) := by
  have h0 : F (up v i fun _ => 0) = 0 := by
    have := h.lin v i hi (-1) (fun _ => 0) (fun _ => 0)
    have e : (fun j : Nat => (-1 : Fin p) * (fun _ => 0) j + (fun _ => 0) j) = fun _ => 0 := by funext j; show (-1 : Fin p) * 0 + 0 = 0; grind
    rw [e] at this
    generalize F (up v i fun _ => 0) = z at this
    grind
  have := h.lin v i hi a x (fun _ => 0)
  have e : (fun j : Nat => a * x j + (fun _ => 0) j) = fun j => a * x j := by funext j; show a * x j + 0 = _; grind
  rw [e, h0] at this
  rw [this]; grind
theorem Alt.zero (h : Alt n m F) (v : Vs p) {i : Nat} (hi : i < n) (hz : ∀ j, j < m → v i j = 0) : F v = 0 := by
  have := h.mul v hi 0 (v i)
  rw [up_self] at this
  rw [h.congr v (up v i fun j => 0 * v i j) (fun k hk j hj => by
    unfold up; split
    · rename_i e; subst e; rw [hz j hj]; grind
    · rfl), this]
  grind
/-- Neighbours change places. -/
theorem Alt.swap (h : Alt n m F) (v : Vs p) {i : Nat} (hi : i + 1 < n) : F (up (up v i (v (i + 1))) (i + 1) (v i)) = - F v := by
  obtain ⟨A, hA⟩ : ∃ A : (Nat → Fin p) → (Nat → Fin p) → Fin p, ∀ x y, A x y = F (up (up v i x) (i + 1) y) := ⟨_, fun _ _ => rfl⟩
  have hz : ∀ x, A x x = 0 := fun x => by rw [hA]; exact h.adj _ i hi fun j _ => by rw [up_at, up_ne _ _ (by omega), up_at]
  have hr : ∀ x y z, A x (fun j => y j + z j) = A x y + A x z := fun x y z => by rw [hA, hA, hA]; exact h.add _ hi y z
  have hl : ∀ x y z, A (fun j => y j + z j) x = A y x + A z x := fun x y z => by
    rw [hA, hA, hA, up_comm (i := i) (j := i + 1) v (by omega) (fun j => y j + z j), up_comm (i := i) (j := i + 1) v (by omega) y, up_comm (i := i) (j := i + 1) v (by omega) z]; exact h.add _ (by omega) y z
  have h1 := hz fun j => v i j + v (i + 1) j
  rw [hl, hr, hr, hz, hz] at h1
  have e : A (v i) (v (i + 1)) = F v := by rw [hA, up_self, up_self]
  rw [e, hA] at h1
  exact ra3 h1
/-- Any two the same. -/
theorem Alt.same (h : Alt n m F) : ∀ (d i j : Nat) (v : Vs p), j = i + d → 0 < d → j < n → v i = v j → F v = 0
  | 0, i, j, v, e, hd, hj, hv => by omega
  | 1, i, j, v, e, hd, hj, hv => h.adj v i (by omega) fun k _ => by rw [hv, e]
  | d + 2, i, j, v, e, hd, hj, hv => by
    have h1 := h.same (d + 1) i (i + d + 1) (up (up v (i + d + 1) (v (i + d + 1 + 1))) (i + d + 1 + 1) (v (i + d + 1))) (by omega) (by omega) (by omega) (by
      rw [up_ne _ _ (by omega), up_ne _ _ (by omega), up_ne _ _ (by omega), up_at, hv]
      exact congrArg v (by omega))
    rw [h.swap v (i := i + d + 1) (by omega)] at h1
    exact ra4 h1
/-- One put in at the k-th place. -/
def ins (v : Vs p) (k : Nat) (x : Nat → Fin p) : Vs p := fun i => if i < k then v i else if i = k then x else v (i - 1)
def sg (k : Nat) : Fin p := if k % 2 = 0 then 1 else -1
theorem sg_succ (k : Nat) : (sg (k + 1) : Fin p) = - sg k := by
  unfold sg
  rcases Nat.mod_two_eq_zero_or_one k with h | h
  · rw [if_neg (by omega), if_pos h]
  · rw [if_pos (by omega), if_neg (by omega)]; exact (ra5 _).symm
theorem sg_zero : (sg 0 : Fin p) = 1 := rfl
theorem ins_end (h : Alt (n + 1) m F) (v : Vs p) (x : Nat → Fin p) : ∀ (d k : Nat), k + d = n → F (ins v k x) = sg d * F (ins v n x)
  | 0, k, e => by rw [show k = n by omega, sg_zero, Fin.one_mul]
  | d + 1, k, e => by
    have h1 := ins_end h v x d (k + 1) (by omega)
    have h2 := h.swap (ins v k x) (i := k) (by omega)
    have e2 : up (up (ins v k x) k (ins v k x (k + 1))) (k + 1) (ins v k x k) = ins v (k + 1) x := by
      funext i
      unfold up ins
      by_cases c1 : i = k + 1
      · subst c1; simp
      · by_cases c2 : i = k
        · subst c2; simp [show ¬ i + 1 < i by omega]
        · by_cases c3 : i < k
          · simp [c1, c2, c3, show i < k + 1 by omega]
          · simp [c1, c2, c3, show ¬ i < k + 1 by omega]
    rw [e2, h1] at h2
    rw [sg_succ]
    exact ra6 h2
theorem ins_sk (v : Vs p) (i : Nat) (x : Nat → Fin p) : ins (fun k => v (sk i k)) i x = up v i x := by
  funext k
  unfold ins up sk
  by_cases c1 : k < i
  · simp [c1, show k ≠ i by omega]
  · by_cases c2 : k = i
    · subst c2; simp
    · simp [c1, c2, show ¬ k - 1 < i by omega, show k - 1 + 1 = k by omega]
theorem sk_ins (v : Vs p) (i : Nat) (x : Nat → Fin p) (k : Nat) : ins v i x (sk i k) = v k := by
  unfold ins sk
  by_cases c1 : k < i
  · simp [c1]
  · simp [c1, show ¬ k + 1 < i by omega, show k + 1 ≠ i by omega]
/-- So many multiples of one vector added. -/
theorem Alt.spread (h : Alt n m F) (w : Vs p) (c : Nat → Fin p) (e : Nat → Fin p) : F (fun i j => w i j + c i * e j) = F w + Sm n (fun i => c i * F (up w i e)) := by
  obtain ⟨V, hV⟩ : ∃ V : Nat → Vs p, ∀ t, V t = fun i => if i < t then (fun j => w i j + c i * e j) else w i := ⟨_, fun _ => rfl⟩
  have step : ∀ t, V (t + 1) = up (V t) t (fun j => c t * e j + w t j) := fun t => by
    funext i
    rw [hV, hV]
    unfold up
    by_cases c1 : i = t
    · subst c1; simp only [show i < i + 1 by omega, if_true]; funext j; exact ra7 _ _
    · by_cases c2 : i < t
      · simp [c1, c2, show i < t + 1 by omega]
      · simp [c1, c2, show ¬ i < t + 1 by omega]
  have wat : ∀ s t, s ≤ t → V s t = w t := fun s t hs => by rw [hV]; exact if_neg (by omega)
  have one : ∀ t, t < n → ∀ s, s ≤ t → F (up (V s) t e) = F (up w t e) := fun t ht => by
    intro s
    induction s with
    | zero => intro _; congr 2; rw [hV]; funext i; simp
    | succ s ih =>
      intro hs
      rw [step, up_comm _ (by omega), h.lin _ s (by omega)]
      have z : F (up (up (V s) t e) s e) = 0 := h.same (t - s) s t _ (by omega) (by omega) ht (by rw [up_at, up_ne _ _ (by omega), up_at])
      have e2 : up (up (V s) t e) s (w s) = up (V s) t e := by
        have : w s = up (V s) t e s := by rw [up_ne _ _ (by omega), wat s s (Nat.le_refl _)]
        rw [this, up_self]
      rw [z, e2, ih (by omega)]; exact ra8 _ _
  have all : ∀ t, t ≤ n → F (V t) = F w + Sm t (fun i => c i * F (up w i e)) := by
    intro t
    induction t with
    | zero =>
      intro _
      have e0 : V 0 = w := by rw [hV]; funext i; simp
      rw [e0, Sm]; exact ra9 _
    | succ t ih =>
      intro ht
      rw [step, h.lin _ t (by omega), one t (by omega) t (Nat.le_refl _)]
      have e2 : up (V t) t (w t) = V t := by rw [← wat t t (Nat.le_refl _), up_self]
      rw [e2, ih (by omega), Sm]; exact ra10 _ _ _
  rw [← all n (Nat.le_refl _)]
  refine h.congr _ _ fun i hi j hj => ?_
  rw [hV]
  show _ = (if i < n then _ else _ : Nat → Fin p) j
  rw [if_pos hi]
end
end Go.SH
