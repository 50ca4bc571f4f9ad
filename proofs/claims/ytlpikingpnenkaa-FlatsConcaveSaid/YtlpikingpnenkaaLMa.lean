/-
 Monomials as exponents, sums over all monomials of a degree; chains of two variables, pressed to one end. Conditions: none.
-/
import Derived.Test.YtlpikingpnenkaaHK
set_option linter.unusedSimpArgs false
set_option linter.unusedVariables false
namespace Go.SH
open Go Go.AX
/-- f 0 + .. + f n. -/
def su (f : Nat → Nat) : Nat → Nat
 | 0 => f 0
 | n + 1 => su f n + f (n + 1)
theorem su_congr {f g : Nat → Nat} : ∀ {n : Nat}, (∀ i, i ≤ n → f i = g i) → su f n = su g n
 | 0, h => h 0 (Nat.le_refl _)
 | n + 1, h => by simp only [su]; rw [su_congr fun i hi => h i (by omega), h (n + 1) (Nat.le_refl _)]
theorem su_le {f g : Nat → Nat} : ∀ {n : Nat}, (∀ i, i ≤ n → f i ≤ g i) → su f n ≤ su g n
 | 0, h => h 0 (Nat.le_refl _)
 | n + 1, h => by
  simp only [su]
  have := su_le (n := n) fun i hi => h i (by omega)
  have := h (n + 1) (Nat.le_refl _)
  omega
theorem su_add (f g : Nat → Nat) : ∀ n, su (fun i => f i + g i) n = su f n + su g n
 | 0 => rfl
 | n + 1 => by simp only [su]; rw [su_add f g n]; omega
theorem su_zero : ∀ n, su (fun _ => 0) n = 0
 | 0 => rfl
 | n + 1 => by simp only [su]; rw [su_zero n]
/-- Shifted by one: f 0 stands apart. -/
theorem su_head (f : Nat → Nat) : ∀ n, su f (n + 1) = f 0 + su (fun i => f (i + 1)) n
 | 0 => rfl
 | n + 1 => by
  rw [su, su_head f n]
  simp only [su]; omega
theorem su_rev (f : Nat → Nat) : ∀ n, su (fun i => f (n - i)) n = su f n
 | 0 => rfl
 | n + 1 => by
  rw [su_head, su, ← su_rev f n]
  have : su (fun i => f (n + 1 - (i + 1))) n = su (fun i => f (n - i)) n := su_congr fun i _ => by rw [show n + 1 - (i + 1) = n - i by omega]
  rw [this, Nat.sub_zero]; omega
/-- A triangle, summed by its other side. -/
theorem su_tri (f : Nat → Nat → Nat) : ∀ n, su (fun a => su (fun b => f a b) (n - a)) n = su (fun b => su (fun a => f a b) (n - b)) n
 | 0 => rfl
 | n + 1 => by
  have e1 : ∀ (h : Nat → Nat → Nat), su (fun a => su (fun b => h a b) (n + 1 - a)) (n + 1) = su (fun a => su (fun b => h a b) (n - a)) n + su (fun a => h a (n + 1 - a)) (n + 1) := fun h => by
   simp only [su]
   have : su (fun a => su (fun b => h a b) (n + 1 - a)) n = su (fun a => su (fun b => h a b) (n - a) + h a (n + 1 - a)) n := su_congr fun a ha => by
    rw [show n + 1 - a = (n - a) + 1 by omega, su]
   rw [this, su_add, Nat.sub_self]
   simp only [su]; omega
  rw [e1, e1 fun b a => f a b, su_tri f n]
  congr 1
  rw [← su_rev (fun a => f a (n + 1 - a)) (n + 1)]
  exact su_congr fun i hi => by rw [show n + 1 - (n + 1 - i) = i by omega]
/-- A triangle, summed by the sums of both sides. -/
theorem su_diag (f : Nat → Nat → Nat) : ∀ n, su (fun a => su (fun b => f a b) (n - a)) n = su (fun t => su (fun a => f a (t - a)) t) n
 | 0 => rfl
 | n + 1 => by
  have : su (fun a => su (fun b => f a b) (n + 1 - a)) n = su (fun a => su (fun b => f a b) (n - a) + f a (n + 1 - a)) n := su_congr fun a ha => by
   rw [show n + 1 - a = (n - a) + 1 by omega, su]
  simp only [su]
  rw [this, su_add, su_diag f n, Nat.sub_self]
  simp only [su]; omega
theorem su_pos {f : Nat → Nat} : ∀ {n i : Nat}, i ≤ n → f i ≤ su f n
 | 0, i, h => by rw [show i = 0 by omega]; exact Nat.le_refl _
 | n + 1, i, h => by
  simp only [su]
  rcases Nat.lt_or_ge n i with q | q
  ·rw [show i = n + 1 by omega]; omega
  ·have := su_pos (f := f) (n := n) q; omega
/-- g with a at v. -/
def upd (g : Nat → Nat) (v a : Nat) : Nat → Nat := fun i => if i = v then a else g i
theorem upd_at (g : Nat → Nat) (v a : Nat) : upd g v a v = a := if_pos rfl
theorem upd_ne (g : Nat → Nat) {v i : Nat} (a : Nat) (h : i ≠ v) : upd g v a i = g i := if_neg h
theorem upd_comm (g : Nat → Nat) {u v : Nat} (a b : Nat) (h : u ≠ v) : upd (upd g u a) v b = upd (upd g v b) u a := by
 funext i
 unfold upd
 split <;> split <;> simp_all
theorem upd_upd (g : Nat → Nat) (v a b : Nat) : upd (upd g v a) v b = upd g v b := by
 funext i; unfold upd; split <;> rfl
theorem upd_self (g : Nat → Nat) (v : Nat) : upd g v (g v) = g := by
 funext i; unfold upd; split
 ·rename_i h; rw [h]
 ·rfl
/-- Over all monomials of degree k in the variables V. -/
def ms : List Nat → Nat → ((Nat → Nat) → Nat) → Nat
 | [], 0, f => f fun _ => 0
 | [], _ + 1, _ => 0
 | v :: V, k, f => su (fun a => ms V (k - a) fun g => f (upd g v a)) k
theorem ms_le {f h : (Nat → Nat) → Nat} : ∀ {V : List Nat} {k : Nat}, (∀ g, f g ≤ h g) → ms V k f ≤ ms V k h
 | [], 0, e => e _
 | [], _ + 1, _ => Nat.le_refl _
 | v :: V, k, e => su_le fun a _ => ms_le fun g => e _
theorem ms_add (f h : (Nat → Nat) → Nat) : ∀ (V : List Nat) (k : Nat), ms V k (fun g => f g + h g) = ms V k f + ms V k h
 | [], 0 => rfl
 | [], _ + 1 => rfl
 | v :: V, k => by
  simp only [ms]
  rw [← su_add]
  exact su_congr fun a _ => ms_add _ _ V (k - a)
theorem ms_zero : ∀ (V : List Nat) (k : Nat), ms V k (fun _ => 0) = 0
 | [], 0 => rfl
 | [], _ + 1 => rfl
 | v :: V, k => by
  simp only [ms]
  rw [su_congr (g := fun _ => 0) fun a _ => ms_zero V (k - a), su_zero]
theorem ms_su (f : Nat → (Nat → Nat) → Nat) (V : List Nat) (k : Nat) : ∀ n, ms V k (fun g => su (fun i => f i g) n) = su (fun i => ms V k (f i)) n
 | 0 => rfl
 | n + 1 => by simp only [su]; rw [ms_add, ms_su f V k n]
theorem ms_swap (u v : Nat) (h : u ≠ v) (V : List Nat) (k : Nat) (f : (Nat → Nat) → Nat) : ms (u :: v :: V) k f = ms (v :: u :: V) k f := by
 simp only [ms]
 rw [su_tri fun a b => ms V (k - a - b) fun g => f (upd (upd g v b) u a)]
 refine su_congr fun b _ => su_congr fun a _ => ?_
 rw [show k - a - b = k - b - a by omega]
 congr 1
 funext g
 rw [upd_comm g b a (Ne.symm h)]
theorem ms_perm {V W : List Nat} (hp : V.Perm W) (hd : V.Nodup) : ∀ (k : Nat) (f : (Nat → Nat) → Nat), ms V k f = ms W k f := by
 induction hp with
 | nil => intro k f; rfl
 | cons x _ ih =>
  intro k f
  simp only [ms]
  exact su_congr fun a _ => ih (List.nodup_cons.1 hd).2 _ _
 | swap x y l =>
  intro k f
  exact ms_swap y x (fun e => by subst e; simp at hd) l k f
 | trans p1 _ ih1 ih2 => intro k f; rw [ih1 hd, ih2 (p1.nodup_iff.1 hd)]
/-- The degree in these variables. -/
def dg : List Nat → (Nat → Nat) → Nat
 | [], _ => 0
 | v :: V, g => g v + dg V g
theorem dg_congr {g h : Nat → Nat} : ∀ {V : List Nat}, (∀ i, i ∈ V → g i = h i) → dg V g = dg V h
 | [], _ => rfl
 | v :: V, e => by
  simp only [dg]
  rw [e v List.mem_cons_self, dg_congr fun i hi => e i (List.mem_cons_of_mem _ hi)]
theorem dg_upd {g : Nat → Nat} {V : List Nat} {v : Nat} (a : Nat) (h : v ∉ V) : dg V (upd g v a) = dg V g := dg_congr fun i hi => upd_ne g a fun e => h (e ▸ hi)
theorem dg_perm {V W : List Nat} (h : V.Perm W) (g : Nat → Nat) : dg V g = dg W g := by
 induction h with
 | nil => rfl
 | cons x _ ih => simp only [dg]; rw [ih]
 | swap x y l => simp only [dg]; omega
 | trans _ _ h1 h2 => rw [h1, h2]
theorem dg_le {g : Nat → Nat} {V : List Nat} {v : Nat} (h : v ∈ V) : g v ≤ dg V g := by
 induction V with
 | nil => cases h
 | cons u V ih =>
  simp only [dg]
  rcases List.mem_cons.1 h with rfl | q
  ·omega
  ·have := ih q; omega
theorem dg_set {g : Nat → Nat} {V : List Nat} {v : Nat} (a : Nat) (hv : v ∈ V) (hd : V.Nodup) : dg V (upd g v a) + g v = dg V g + a := by
 induction V with
 | nil => cases hv
 | cons u V ih =>
  have hd' := List.nodup_cons.1 hd
  simp only [dg]
  rcases List.mem_cons.1 hv with rfl | q
  ·rw [upd_at, dg_upd a hd'.1]; omega
  ·rw [upd_ne g a (by rintro rfl; exact hd'.1 q)]
   have := ih q hd'.2
   omega
/-- What a monomial of degree k in these variables is. -/
def Mo (V : List Nat) (k : Nat) (g : Nat → Nat) : Prop := (∀ i, i ∉ V → g i = 0) ∧ dg V g = k
theorem Mo.perm {V W : List Nat} {k : Nat} {g : Nat → Nat} (h : Mo V k g) (hp : V.Perm W) : Mo W k g := ⟨fun i hi => h.1 i fun q => hi (hp.mem_iff.1 q), by rw [← dg_perm hp]; exact h.2⟩
theorem Mo.ext {V : List Nat} {v k a : Nat} {g : Nat → Nat} (h : Mo V (k - a) g) (hv : v ∉ V) (ha : a ≤ k) : Mo (v :: V) k (upd g v a) := by
 refine ⟨fun i hi => ?_, ?_⟩
 ·rw [upd_ne g a (by rintro rfl; exact hi List.mem_cons_self)]
  exact h.1 i fun q => hi (List.mem_cons_of_mem _ q)
 ·simp only [dg]
  rw [upd_at, dg_upd a hv, h.2]; omega
theorem ms_congr {f h : (Nat → Nat) → Nat} : ∀ {V : List Nat} {k : Nat}, V.Nodup → (∀ g, Mo V k g → f g = h g) → ms V k f = ms V k h
 | [], 0, _, e => e _ ⟨fun _ _ => rfl, rfl⟩
 | [], _ + 1, _, _ => rfl
 | v :: V, k, hd, e => su_congr fun a ha => ms_congr (List.nodup_cons.1 hd).2 fun g hg => e _ (hg.ext (List.nodup_cons.1 hd).1 ha)
theorem ms_leM {f h : (Nat → Nat) → Nat} : ∀ {V : List Nat} {k : Nat}, V.Nodup → (∀ g, Mo V k g → f g ≤ h g) → ms V k f ≤ ms V k h
 | [], 0, _, e => e _ ⟨fun _ _ => rfl, rfl⟩
 | [], _ + 1, _, _ => Nat.le_refl _
 | v :: V, k, hd, e => su_le fun a ha => ms_leM (List.nodup_cons.1 hd).2 fun g hg => e _ (hg.ext (List.nodup_cons.1 hd).1 ha)
theorem ms_pos {f : (Nat → Nat) → Nat} : ∀ {V : List Nat} {k : Nat} {g : Nat → Nat}, V.Nodup → Mo V k g → f g ≤ ms V k f
 | [], 0, g, _, h => by
  have : g = fun _ => 0 := funext fun i => h.1 i (by simp)
  rw [this]; exact Nat.le_refl _
 | [], k + 1, g, _, h => by have := h.2; simp [dg] at this
 | v :: V, k, g, hd, h => by
  have hv := (List.nodup_cons.1 hd).1
  have hk := h.2
  simp only [dg] at hk
  have h1 : Mo V (k - g v) (upd g v 0) := by
   refine ⟨fun i hi => ?_, by rw [dg_upd 0 hv]; omega⟩
   rcases Nat.decEq i v with e | e
   ·rw [upd_ne g 0 e]; exact h.1 i fun q => (List.mem_cons.1 q).elim e hi
   ·rw [e, upd_at]
  have h2 := ms_pos (f := fun g' => f (upd g' v (g v))) (List.nodup_cons.1 hd).2 h1
  simp only [upd_upd, upd_self] at h2
  exact Nat.le_trans h2 (su_pos (f := fun a => ms V (k - a) fun g' => f (upd g' v a)) (show g v ≤ k by omega))
/-- One where it holds. -/
noncomputable def ind (p : Prop) : Nat := open Classical in if p then 1 else 0
theorem ind_t {p : Prop} (h : p) : ind p = 1 := by unfold ind; rw [if_pos h]
theorem ind_f {p : Prop} (h : ¬ p) : ind p = 0 := by unfold ind; rw [if_neg h]
theorem ind_le {p q : Prop} (h : p → q) : ind p ≤ ind q := by
 by_cases c : p
 ·rw [ind_t c, ind_t (h c)]; exact Nat.le_refl _
 ·rw [ind_f c]; exact Nat.zero_le _
theorem ind_1 (p : Prop) : ind p ≤ 1 := by
 by_cases c : p
 ·rw [ind_t c]; exact Nat.le_refl _
 ·rw [ind_f c]; exact Nat.zero_le _
/-- How many monomials of degree k. -/
noncomputable def cn (V : List Nat) (k : Nat) (S : (Nat → Nat) → Prop) : Nat := ms V k fun g => ind (S g)
theorem su_ind_le {p : Nat → Prop} : ∀ n, su (fun i => ind (p i)) n ≤ n + 1
 | 0 => ind_1 _
 | n + 1 => by
  simp only [su]
  have := su_ind_le (p := p) n
  have := ind_1 (p (n + 1))
  omega
/-- The top of a chain. -/
theorem su_top (c : Nat) : ∀ n, c ≤ n + 1 → su (fun a => ind (n - a < c)) n = c
 | 0, h => by
  simp only [su]
  rcases Nat.eq_zero_or_pos c with rfl | q
  ·exact ind_f (by omega)
  ·rw [ind_t (by omega)]; omega
 | n + 1, h => by
  rw [su_head]
  rcases Nat.lt_or_ge (n + 1) c with q | q
  ·rw [ind_t (by omega)]
   have : su (fun i => ind (n + 1 - (i + 1) < c)) n = su (fun i => ind (n - i < n + 1)) n := su_congr fun i _ => by rw [ind_t (by omega), ind_t (by omega)]
   rw [this, su_top (n + 1) n (by omega)]; omega
  ·rw [ind_f (by omega)]
   have : su (fun i => ind (n + 1 - (i + 1) < c)) n = su (fun i => ind (n - i < c)) n := su_congr fun i _ => by rw [show n + 1 - (i + 1) = n - i by omega]
   rw [this, su_top c n q]; omega
end Go.SH
