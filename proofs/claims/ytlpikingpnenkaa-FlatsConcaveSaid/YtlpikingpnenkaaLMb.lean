/-
 Sets of monomials pressed along two variables: as many as before, and what lies over them still does. Conditions: none.
-/
import Derived.Test.YtlpikingpnenkaaLMa
set_option linter.unusedSimpArgs false
set_option linter.unusedVariables false
namespace Go.SH
open Go Go.AX
section
variable {x j : Nat}
/-- The chain of a monomial: its share of x and j divided otherwise. -/
def ch (x j : Nat) (g : Nat → Nat) (s : Nat) : Nat → Nat := upd (upd g x s) j (g x + g j - s)
/-- How many of its chain are there. -/
noncomputable def cc (x j : Nat) (S : (Nat → Nat) → Prop) (g : Nat → Nat) : Nat := su (fun s => ind (S (ch x j g s))) (g x + g j)
/-- Pressed to x. -/
def Pr (x j : Nat) (S : (Nat → Nat) → Prop) (g : Nat → Nat) : Prop := g j < cc x j S g
theorem ms_two (h : x ≠ j) (W : List Nat) (k : Nat) (f : (Nat → Nat) → Nat) :
  ms (x :: j :: W) k f = su (fun t => ms W (k - t) fun g => su (fun a => f (upd (upd g x a) j (t - a))) t) k := by
 simp only [ms]
 rw [su_diag fun a b => ms W (k - a - b) fun g => f (upd (upd g j b) x a)]
 refine su_congr fun t ht => ?_
 rw [ms_su]
 refine su_congr fun a ha => ?_
 rw [show k - a - (t - a) = k - t by omega]
 congr 1
 funext g
 rw [upd_comm g _ _ (Ne.symm h)]
theorem ch_line (h : x ≠ j) (g : Nat → Nat) {t a : Nat} (ha : a ≤ t) (s : Nat) : ch x j (upd (upd g x a) j (t - a)) s = upd (upd g x s) j (t - s) := by
 unfold ch
 have e1 : upd (upd g x a) j (t - a) x = a := by rw [upd_ne _ _ h, upd_at]
 have e2 : upd (upd g x a) j (t - a) j = t - a := upd_at _ _ _
 rw [e1, e2, show a + (t - a) - s = t - s by omega, upd_comm (upd g x a) (t - a) s (Ne.symm h), upd_upd, upd_upd]
theorem cc_line (h : x ≠ j) (S : (Nat → Nat) → Prop) (g : Nat → Nat) {t a : Nat} (ha : a ≤ t) : cc x j S (upd (upd g x a) j (t - a)) = su (fun s => ind (S (upd (upd g x s) j (t - s)))) t := by
 unfold cc
 have e1 : upd (upd g x a) j (t - a) x = a := by rw [upd_ne _ _ h, upd_at]
 have e2 : upd (upd g x a) j (t - a) j = t - a := upd_at _ _ _
 rw [e1, e2, show a + (t - a) = t by omega]
 exact su_congr fun s _ => by rw [ch_line h g ha s]
theorem Pr_cn (h : x ≠ j) (W : List Nat) (k : Nat) (S : (Nat → Nat) → Prop) : cn (x :: j :: W) k (Pr x j S) = cn (x :: j :: W) k S := by
 unfold cn
 rw [ms_two h, ms_two h]
 refine su_congr fun t ht => ?_
 congr 1
 funext g
 have hc := su_ind_le (p := fun s => S (upd (upd g x s) j (t - s))) t
 have : su (fun a => ind (Pr x j S (upd (upd g x a) j (t - a)))) t = su (fun a => ind (t - a < su (fun s => ind (S (upd (upd g x s) j (t - s)))) t)) t := su_congr fun a ha => by
  unfold Pr
  rw [cc_line h S g ha, upd_at]
 rw [this, su_top _ t hc]
theorem top_up (c : Nat) : ∀ m, c ≤ m + 1 → su (fun a => if m - a < c then a else 0) m + c ≤ su (fun a => if m + 1 - a < c then a else 0) (m + 1) := by
 intro m hm
 have e := su_top c m hm
 rw [su_head]
 have : su (fun i => if m + 1 - (i + 1) < c then i + 1 else 0) m = su (fun a => if m - a < c then a else 0) m + su (fun a => ind (m - a < c)) m := by
  rw [← su_add]
  refine su_congr fun a ha => ?_
  rw [show m + 1 - (a + 1) = m - a by omega]
  by_cases q : m - a < c
  ·rw [if_pos q, if_pos q, ind_t q]
  ·rw [if_neg q, if_neg q, ind_f q]
 rw [this, e]; omega
/-- What is far up weighs more. -/
theorem su_wt (p : Nat → Prop) : ∀ n, su (fun a => if ind (p a) = 1 then a else 0) n ≤ su (fun a => if n - a < su (fun s => ind (p s)) n then a else 0) n ∧
  ((∃ a, a + 1 ≤ n ∧ p a ∧ ¬ p (a + 1)) → su (fun a => if ind (p a) = 1 then a else 0) n < su (fun a => if n - a < su (fun s => ind (p s)) n then a else 0) n) := by
 intro n
 induction n with
 | zero => exact ⟨by simp only [su]; split <;> exact Nat.zero_le _, by rintro ⟨a, h, _⟩; omega⟩
 | succ n ih =>
  have hc := su_ind_le (p := p) n
  have hex : (∃ a, a ≤ n ∧ p a) → 1 ≤ su (fun s => ind (p s)) n := by
   rintro ⟨a, a1, a2⟩
   have this : ind (p a) ≤ su (fun s => ind (p s)) n := su_pos (f := fun s => ind (p s)) a1
   rw [ind_t a2] at this; exact this
  generalize hq : su (fun s => ind (p s)) n = c at ih hc hex
  have e0 : su (fun s => ind (p s)) (n + 1) = c + ind (p (n + 1)) := by simp only [su]; rw [hq]
  rw [e0]
  obtain ⟨ih1, ih2⟩ := ih
  by_cases hp : p (n + 1)
  ·rw [ind_t hp]
   simp only [su]
   rw [ind_t hp, if_pos rfl, if_pos (show n + 1 - (n + 1) < c + 1 by omega)]
   have : su (fun a => if n + 1 - a < c + 1 then a else 0) n = su (fun a => if n - a < c then a else 0) n := su_congr fun a ha => by
    by_cases q : n - a < c
    ·rw [if_pos q, if_pos (by omega)]
    ·rw [if_neg q, if_neg (by omega)]
   rw [this]
   refine ⟨by omega, ?_⟩
   rintro ⟨a, a1, a2, a3⟩
   have : a + 1 ≤ n := by
    rcases Nat.lt_or_ge n (a + 1) with q | q
    ·rw [show a + 1 = n + 1 by omega] at a3; exact absurd hp a3
    ·exact q
   have := ih2 ⟨a, this, a2, a3⟩
   omega
  ·rw [ind_f hp]
   simp only [Nat.add_zero]
   have hk := top_up c n hc
   have e1 : su (fun a => if ind (p a) = 1 then a else 0) (n + 1) = su (fun a => if ind (p a) = 1 then a else 0) n := by
    simp only [su]
    rw [ind_f hp, if_neg (by omega), Nat.add_zero]
   rw [e1]
   refine ⟨by omega, ?_⟩
   rintro ⟨a, a1, a2, a3⟩
   have := hex ⟨a, by omega, a2⟩
   omega
/-- How much of x they have together. -/
noncomputable def pot (x : Nat) (V : List Nat) (k : Nat) (S : (Nat → Nat) → Prop) : Nat := ms V k fun g => if ind (S g) = 1 then g x else 0
theorem su_lt {f g : Nat → Nat} {n i : Nat} (h : ∀ i, i ≤ n → f i ≤ g i) (hi : i ≤ n) (hl : f i < g i) : su f n < su g n := by
 induction n with
 | zero => rw [show i = 0 by omega] at hl; exact hl
 | succ n ih =>
  simp only [su]
  have h1 := h (n + 1) (Nat.le_refl _)
  rcases Nat.lt_or_ge n i with q | q
  ·rw [show i = n + 1 by omega] at hl
   have := su_le (n := n) fun i hi => h i (by omega)
   omega
  ·have := ih (fun i hi => h i (by omega)) q
   omega
theorem ms_lt {f h : (Nat → Nat) → Nat} (hf : ∀ g, f g ≤ h g) : ∀ {V : List Nat} {k : Nat} {g : Nat → Nat}, V.Nodup → Mo V k g → f g < h g → ms V k f < ms V k h := by
 intro V
 induction V generalizing f h with
 | nil =>
  intro k g _ hm hl
  have e : g = fun _ => 0 := funext fun i => hm.1 i (by simp)
  have hk : k = 0 := by have := hm.2; simp [dg] at this; exact this.symm
  subst hk
  rw [e] at hl; exact hl
 | cons v V ih =>
  intro k g hd hm hl
  have hv := (List.nodup_cons.1 hd).1
  have hk := hm.2
  simp only [dg] at hk
  have h1 : Mo V (k - g v) (upd g v 0) := by
   refine ⟨fun i hi => ?_, by rw [dg_upd 0 hv]; omega⟩
   rcases Nat.decEq i v with e | e
   ·rw [upd_ne g 0 e]; exact hm.1 i fun q => (List.mem_cons.1 q).elim e hi
   ·rw [e, upd_at]
  refine su_lt (i := g v) (fun a _ => ms_le fun g' => hf _) (by omega) ?_
  refine ih (fun g' => hf _) (List.nodup_cons.1 hd).2 h1 ?_
  rw [upd_upd, upd_self]; exact hl
theorem Mo.zero2 {W : List Nat} {k : Nat} {g : Nat → Nat} (h : Mo (x :: j :: W) k g) (hd : (x :: j :: W).Nodup) : Mo W (k - (g x + g j)) (upd (upd g x 0) j 0) ∧ g x + g j ≤ k := by
 have hx := (List.nodup_cons.1 hd).1
 have hd2 := (List.nodup_cons.1 hd).2
 have hj := (List.nodup_cons.1 hd2).1
 have hk := h.2
 simp only [dg] at hk
 refine ⟨⟨fun i hi => ?_, ?_⟩, by omega⟩
 ·rcases Nat.decEq i j with e | e
  ·rw [upd_ne _ 0 e]
   rcases Nat.decEq i x with e2 | e2
   ·rw [upd_ne _ 0 e2]
    exact h.1 i fun q => (List.mem_cons.1 q).elim e2 fun q => (List.mem_cons.1 q).elim e hi
   ·rw [e2, upd_at]
  ·rw [e, upd_at]
 ·rw [dg_upd 0 hj, dg_upd 0 fun q => hx (List.mem_cons_of_mem _ q)]; omega
/-- Pressing brings more of x together, strictly if anything moves. -/
theorem Pr_pot {W : List Nat} {k : Nat} (hd : (x :: j :: W).Nodup) (S : (Nat → Nat) → Prop) (hm : ∃ g, Mo (x :: j :: W) k g ∧ S g ∧ 0 < g j ∧ ¬ S (upd (upd g x (g x + 1)) j (g j - 1))) :
  pot x (x :: j :: W) k S < pot x (x :: j :: W) k (Pr x j S) := by
 have h : x ≠ j := fun e => (List.nodup_cons.1 hd).1 (e ▸ List.mem_cons_self)
 have hdW := (List.nodup_cons.1 (List.nodup_cons.1 hd).2).2
 unfold pot
 rw [ms_two h, ms_two h]
 have e1 : ∀ (t : Nat) (g : Nat → Nat), su (fun a => if ind (S (upd (upd g x a) j (t - a))) = 1 then upd (upd g x a) j (t - a) x else 0) t = su (fun a => if ind (S (upd (upd g x a) j (t - a))) = 1 then a else 0) t := fun t g => su_congr fun a _ => by
  rw [upd_ne _ _ h, upd_at]
 have e2 : ∀ (t : Nat) (g : Nat → Nat), su (fun a => if ind (Pr x j S (upd (upd g x a) j (t - a))) = 1 then upd (upd g x a) j (t - a) x else 0) t = su (fun a => if t - a < su (fun s => ind (S (upd (upd g x s) j (t - s)))) t then a else 0) t := fun t g => su_congr fun a ha => by
  rw [upd_ne _ _ h, upd_at]
  unfold Pr
  rw [cc_line h S g ha, upd_at]
  by_cases q : t - a < su (fun s => ind (S (upd (upd g x s) j (t - s)))) t
  ·rw [if_pos q, ind_t q, if_pos rfl]
  ·rw [if_neg q, ind_f q, if_neg (by omega)]
 simp only [e1, e2]
 obtain ⟨g, g1, g2, g3, g4⟩ := hm
 obtain ⟨z1, z2⟩ := g1.zero2 hd
 refine su_lt (i := g x + g j) (fun t _ => ms_le fun g' => (su_wt _ t).1) z2 (ms_lt (fun g' => (su_wt _ _).1) hdW z1 ((su_wt _ _).2 ⟨g x, by omega, ?_, ?_⟩))
 ·have : upd (upd (upd (upd g x 0) j 0) x (g x)) j (g x + g j - g x) = g := by
   rw [upd_comm (upd g x 0) 0 (g x) (Ne.symm h), upd_upd, upd_upd, upd_self, show g x + g j - g x = g j by omega, upd_self]
  rw [this]; exact g2
 ·have : upd (upd (upd (upd g x 0) j 0) x (g x + 1)) j (g x + g j - (g x + 1)) = upd (upd g x (g x + 1)) j (g j - 1) := by
   rw [upd_comm (upd g x 0) 0 (g x + 1) (Ne.symm h), upd_upd, upd_upd, show g x + g j - (g x + 1) = g j - 1 by omega]
  rw [this]; exact g4
/-! ### what lies over -/
/-- All divisors of T's monomials are in S. -/
def Ov (V : List Nat) (k : Nat) (S T : (Nat → Nat) → Prop) : Prop := ∀ g, Mo V (k + 1) g → T g → ∀ v, 0 < g v → S (upd g v (g v - 1))
theorem two_chain {τ σ : Nat → Prop} : ∀ n, (∀ s, s ≤ n → τ s → σ s) → (∀ s, s ≤ n → τ (s + 1) → σ s) → su (fun s => ind (τ s)) (n + 1) ≤ su (fun s => ind (σ s)) n + 1 ∧ (su (fun s => ind (τ s)) (n + 1) ≤ n + 1 → su (fun s => ind (τ s)) (n + 1) ≤ su (fun s => ind (σ s)) n)
 | 0, h1, h2 => by
  simp only [su]
  have a := ind_le (h1 0 (Nat.le_refl _))
  have b := ind_le (h2 0 (Nat.le_refl _))
  have c := ind_1 (τ 0)
  have d := ind_1 (τ (0 + 1))
  constructor
  ·omega
  ·omega
 | n + 1, h1, h2 => by
  obtain ⟨i1, i2⟩ := two_chain n (fun s hs => h1 s (by omega)) fun s hs => h2 s (by omega)
  refine ⟨?_, fun h => ?_⟩
  ·rw [su_head]
   have := su_le (n := n + 1) (f := fun s => ind (τ (s + 1))) (g := fun s => ind (σ s)) fun s hs => ind_le (h2 s hs)
   have := ind_1 (τ 0)
   omega
  ·by_cases c : τ (n + 1 + 1)
   ·have e : ind (τ (n + 1 + 1)) = 1 := ind_t c
    have e' : ind (σ (n + 1)) = 1 := ind_t (h2 (n + 1) (Nat.le_refl _) c)
    have u1 : su (fun s => ind (τ s)) (n + 1 + 1) = su (fun s => ind (τ s)) (n + 1) + 1 := by rw [su]; simp only [e]
    have u2 : su (fun s => ind (σ s)) (n + 1) = su (fun s => ind (σ s)) n + 1 := by rw [su]; simp only [e']
    have := i2 (by omega)
    omega
   ·have e : ind (τ (n + 1 + 1)) = 0 := ind_f c
    have u1 : su (fun s => ind (τ s)) (n + 1 + 1) = su (fun s => ind (τ s)) (n + 1) := by rw [su]; simp only [e]; rfl
    rw [u1]
    exact su_le fun s hs => ind_le (h1 s hs)
theorem Mo.ch {V : List Nat} {k : Nat} {g : Nat → Nat} (hg : Mo V k g) (hd : V.Nodup) (h : x ≠ j) (hx : x ∈ V) (hj : j ∈ V) {s : Nat} (hs : s ≤ g x + g j) : Mo V k (ch x j g s) := by
 unfold SH.ch
 refine ⟨fun i hi => ?_, ?_⟩
 ·rw [upd_ne _ _ (by rintro rfl; exact hi hj), upd_ne _ _ (by rintro rfl; exact hi hx)]
  exact hg.1 i hi
 ·have a := dg_set (g := g) s hx hd
  have b := dg_set (g := upd g x s) (g x + g j - s) hj hd
  rw [upd_ne g s (Ne.symm h)] at b
  have := hg.2
  omega
theorem Pr_Ov {V : List Nat} {k : Nat} {S T : (Nat → Nat) → Prop} (hd : V.Nodup) (h : x ≠ j) (hx : x ∈ V) (hj : j ∈ V) (ho : Ov V k S T) : Ov V k (Pr x j S) (Pr x j T) := by
 intro g hg hT v hv
 have hch : ∀ s, s ≤ g x + g j → T (ch x j g s) → ∀ u, 0 < ch x j g s u → S (upd (ch x j g s) u (ch x j g s u - 1)) := fun s hs hTs u hu => ho _ (hg.ch hd h hx hj hs) hTs u hu
 have chx : ∀ s, ch x j g s x = s := fun s => by unfold ch; rw [upd_ne _ _ h, upd_at]
 have chj : ∀ s, ch x j g s j = g x + g j - s := fun s => by unfold ch; rw [upd_at]
 unfold Pr at hT ⊢
 by_cases vx : v = x
 ·subst vx
  obtain ⟨n, hn⟩ : ∃ n, g v + g j = n + 1 := ⟨g v + g j - 1, by omega⟩
  have mx : upd g v (g v - 1) v = g v - 1 := upd_at _ _ _
  have mj : upd g v (g v - 1) j = g j := upd_ne _ _ (Ne.symm h)
  have hcm : ∀ s, ch v j (upd g v (g v - 1)) s = upd (upd g v s) j (n - s) := fun s => by
   unfold ch; rw [mx, mj, upd_upd, show g v - 1 + g j - s = n - s by omega]
  have t1 : ∀ s, s ≤ n → T (ch v j g s) → S (ch v j (upd g v (g v - 1)) s) := fun s hs ht => by
   have := hch s (by omega) ht j (by rw [chj]; omega)
   rw [chj] at this
   rw [hcm]
   have e : upd (ch v j g s) j (g v + g j - s - 1) = upd (upd g v s) j (n - s) := by unfold ch; rw [upd_upd, show g v + g j - s - 1 = n - s by omega]
   rw [e] at this; exact this
  have t2 : ∀ s, s ≤ n → T (ch v j g (s + 1)) → S (ch v j (upd g v (g v - 1)) s) := fun s hs ht => by
   have := hch (s + 1) (by omega) ht v (by rw [chx]; omega)
   rw [chx] at this
   rw [hcm]
   have e : upd (ch v j g (s + 1)) v (s + 1 - 1) = upd (upd g v s) j (n - s) := by
    unfold ch; rw [upd_comm (upd g v (s + 1)) _ _ (Ne.symm h), upd_upd, show g v + g j - (s + 1) = n - s by omega, show s + 1 - 1 = s by omega]
   rw [e] at this; exact this
  obtain ⟨c1, c2⟩ := two_chain n t1 t2
  have eT : cc v j T g = su (fun s => ind (T (ch v j g s))) (n + 1) := by unfold cc; rw [hn]
  have eS : cc v j S (upd g v (g v - 1)) = su (fun s => ind (S (ch v j (upd g v (g v - 1)) s))) n := by unfold cc; rw [mx, mj, show g v - 1 + g j = n by omega]
  rw [mj, eS]
  rw [eT] at hT
  rcases Nat.lt_or_ge (n + 1) (su (fun s => ind (T (ch v j g s))) (n + 1)) with q | q
  ·omega
  ·have := c2 q
   omega
 ·by_cases vj : v = j
  ·subst vj
   obtain ⟨n, hn⟩ : ∃ n, g x + g v = n + 1 := ⟨g x + g v - 1, by omega⟩
   have mj : upd g v (g v - 1) v = g v - 1 := upd_at _ _ _
   have mx : upd g v (g v - 1) x = g x := upd_ne _ _ h
   have hcm : ∀ s, ch x v (upd g v (g v - 1)) s = upd (upd g x s) v (n - s) := fun s => by
    unfold ch; rw [mx, mj, upd_comm g _ _ (Ne.symm h), upd_upd, show g x + (g v - 1) - s = n - s by omega]
   have t1 : ∀ s, s ≤ n → T (ch x v g s) → S (ch x v (upd g v (g v - 1)) s) := fun s hs ht => by
    have := hch s (by omega) ht v (by rw [chj]; omega)
    rw [chj] at this
    rw [hcm]
    have e : upd (ch x v g s) v (g x + g v - s - 1) = upd (upd g x s) v (n - s) := by unfold ch; rw [upd_upd, show g x + g v - s - 1 = n - s by omega]
    rw [e] at this; exact this
   have t2 : ∀ s, s ≤ n → T (ch x v g (s + 1)) → S (ch x v (upd g v (g v - 1)) s) := fun s hs ht => by
    have := hch (s + 1) (by omega) ht x (by rw [chx]; omega)
    rw [chx] at this
    rw [hcm]
    have e : upd (ch x v g (s + 1)) x (s + 1 - 1) = upd (upd g x s) v (n - s) := by
     unfold ch; rw [upd_comm (upd g x (s + 1)) _ _ (Ne.symm h), upd_upd, show g x + g v - (s + 1) = n - s by omega, show s + 1 - 1 = s by omega]
    rw [e] at this; exact this
   obtain ⟨c1, c2⟩ := two_chain n t1 t2
   have eT : cc x v T g = su (fun s => ind (T (ch x v g s))) (n + 1) := by unfold cc; rw [hn]
   have eS : cc x v S (upd g v (g v - 1)) = su (fun s => ind (S (ch x v (upd g v (g v - 1)) s))) n := by unfold cc; rw [mx, mj, show g x + (g v - 1) = n by omega]
   rw [mj, eS]
   rw [eT] at hT
   omega
  ·have mx : upd g v (g v - 1) x = g x := upd_ne _ _ fun e => vx e.symm
   have mj : upd g v (g v - 1) j = g j := upd_ne _ _ fun e => vj e.symm
   have hle : cc x j T g ≤ cc x j S (upd g v (g v - 1)) := by
    unfold cc
    rw [mx, mj]
    refine su_le fun s hs => ind_le fun ht => ?_
    have hcv : ch x j g s v = g v := by unfold ch; rw [upd_ne _ _ vj, upd_ne _ _ vx]
    have := hch s hs ht v (by rw [hcv]; exact hv)
    rw [hcv] at this
    have e : ch x j (upd g v (g v - 1)) s = upd (ch x j g s) v (g v - 1) := by
     unfold ch
     rw [mx, mj, upd_comm g _ _ vx, upd_comm (upd g x s) _ _ vj]
    rw [e]; exact this
   rw [mj]; omega
end
end Go.SH
