/-
 MACAULAY, STANLEY: of what is shelled there are no more restrictions of a size than the ones a size less let. Conditions: up to 10 vertices, 70 restrictions of a size, sizes up to 7.
-/
import Derived.Test.YtlpikingpnenkaaLMi
set_option linter.unusedSimpArgs false
set_option linter.unusedVariables false
namespace Go.SH
open Go Go.AX
section
variable {V : List Nat} {m d : Nat} {F R : Nat → List Nat} {co : (Nat → Nat) → Nat}
theorem x_eq (h : Shl V m d F R) (hV : V.Nodup) (h11 : ∀ v, v ∈ V → v < 11) (hco : Cod V co) : ∀ j, j ≤ d → ∀ k, k < 16 → cn V k (Ld co (Xs V m F j k)) = Un m d R j k := by
 intro j
 induction j with
 | zero => intro hj k hk; exact Nat.le_antisymm (x_up h hV h11 hco hj hk) (x_zero h hV k)
 | succ j ih =>
  intro hj k hk
  refine Nat.le_antisymm (x_up h hV h11 hco hj hk) ?_
  cases k with
  | zero =>
   rw [← Un_zero, ← ih (by omega) 0 hk]
   refine cn_le hV fun g _ => ?_
   rintro ⟨c, c1, c2, c3⟩
   refine ⟨c, ⟨c1.1, fun a _ g => Ls_zero fun u _ => ?_⟩, c2, c3⟩
   have : c (up g u) = 0 := Classical.byContradiction fun q => by
    obtain ⟨_, q', e, _⟩ := Mo_up hV (c1.1 _ q).1
    omega
   rw [this, f_mz]
  | succ k =>
   have h1 := Un_step (m := m) (R := R) (show j < d by omega) k
   have h2 := x_step (V := V) (m := m) (F := F) hV hco (j := j) hk
   rw [ih (by omega) (k + 1) hk, ih (by omega) k (by omega)] at h2
   omega
/-- How many restrictions have a size. -/
def rn (m : Nat) (R : Nat → List Nat) (k : Nat) : Nat := s0 (fun i => if (R i).length = k then 1 else 0) m
theorem Un_last (k : Nat) : Un m d R d k = rn m R k := by
 refine s0_congr fun i _ => ?_
 rw [Nat.sub_self]
 rcases Nat.lt_trichotomy (R i).length k with q | q | q
 ·rw [if_pos (by omega), if_neg (by omega)]
  obtain ⟨e, he⟩ : ∃ e, k - (R i).length = e + 1 := ⟨k - (R i).length - 1, by omega⟩
  rw [he]; rfl
 ·rw [if_pos (by omega), if_pos q, q, Nat.sub_self]; rfl
 ·rw [if_neg (by omega), if_neg (by omega)]
theorem Ld_Ov (hV : V.Nodup) (hco : Cod V co) {j k : Nat} : Ov V k (Ld co (Xs V m F j k)) (Ld co (Xs V m F j (k + 1))) := by
 rintro g hg ⟨c, c1, c2, c3⟩ v hv
 have e0 : up (upd g v (g v - 1)) v = g := by
  unfold up
  rw [upd_at, upd_upd, show g v - 1 + 1 = g v by omega, upd_self]
 have hvV : v ∈ V := Classical.byContradiction fun q => by have := hg.1 v q; omega
 obtain ⟨e, he⟩ := hco.up v hvV
 refine ⟨fun g' => c (up g' v), Xs_up hV v c1, ?_, fun g' hg' => c3 _ ?_⟩
 ·show c (up (upd g v (g v - 1)) v) ≠ 0
  rw [e0]; exact c2
 ·have := he (upd g v (g v - 1))
  rw [e0] at this
  rw [he, this]; omega
theorem mac_shl (h : Shl V m d F R) (hV : V.Nodup) (h11 : ∀ v, v ∈ V → v < 11) (hco : Cod V co) {k : Nat} (h1 : 1 ≤ k) (h8 : k < 8) (hb : rn m R k < 71) : rn m R (k + 1) ≤ tM k (rn m R k) := by
 rw [← Un_last (d := d), ← Un_last (d := d), ← x_eq h hV h11 hco d (Nat.le_refl _) (k + 1) (by omega), ← x_eq h hV h11 hco d (Nat.le_refl _) k (by omega)]
 refine macaulay V hV k h1 h8 _ _ (Ld_Ov hV hco) ?_
 rw [x_eq h hV h11 hco d (Nat.le_refl _) k (by omega), Un_last]; exact hb
end
/-! ### numbers for monomials -/
def con (g : Nat → Nat) : Nat → Nat
 | 0 => 0
 | n + 1 => con g n + g n * 16 ^ n
theorem con_lt {g : Nat → Nat} : ∀ {n : Nat}, (∀ v, v < n → g v < 16) → con g n < 16 ^ n
 | 0, _ => by simp [con]
 | n + 1, h => by
  have h1 := con_lt (n := n) fun v hv => h v (by omega)
  have h2 := h n (by omega)
  have h3 : g n * 16 ^ n ≤ 15 * 16 ^ n := Nat.mul_le_mul_right _ (by omega)
  simp only [con]
  rw [Nat.pow_succ]; omega
theorem con_inj {g h : Nat → Nat} : ∀ {n : Nat}, (∀ v, v < n → g v < 16) → (∀ v, v < n → h v < 16) → con g n = con h n → ∀ v, v < n → g v = h v
 | 0, _, _, _ => fun v hv => by omega
 | n + 1, hg, hh, e => by
  have h1 := con_lt (n := n) fun v hv => hg v (by omega)
  have h2 := con_lt (n := n) fun v hv => hh v (by omega)
  simp only [con] at e
  have hn : g n = h n := by
   rcases Nat.lt_trichotomy (g n) (h n) with q | q | q
   ·have : (g n + 1) * 16 ^ n ≤ h n * 16 ^ n := Nat.mul_le_mul_right _ q
    rw [Nat.add_mul] at this; omega
   ·exact q
   ·have : (h n + 1) * 16 ^ n ≤ g n * 16 ^ n := Nat.mul_le_mul_right _ q
    rw [Nat.add_mul] at this; omega
  rw [hn] at e
  have ih := con_inj (n := n) (fun v hv => hg v (by omega)) (fun v hv => hh v (by omega)) (by omega)
  intro v hv
  rcases Nat.lt_or_ge v n with q | q
  ·exact ih v q
  ·rw [show v = n by omega]; exact hn
theorem con_congr {g h : Nat → Nat} : ∀ {n : Nat}, (∀ v, v < n → g v = h v) → con g n = con h n
 | 0, _ => rfl
 | n + 1, e => by simp only [con]; rw [con_congr fun v hv => e v (by omega), e n (by omega)]
theorem con_up (g : Nat → Nat) (u : Nat) : ∀ n, u < n → con (up g u) n = con g n + 16 ^ u
 | 0, h => by omega
 | n + 1, h => by
  simp only [con]
  rcases Nat.lt_or_ge u n with q | q
  ·rw [con_up g u n q]
   unfold up
   rw [upd_ne _ _ (by omega)]; omega
  ·have e : u = n := by omega
   subst e
   have : con (up g u) u = con g u := con_congr fun v hv => by unfold up; rw [upd_ne _ _ (by omega)]
   rw [this]
   unfold up
   rw [upd_at, Nat.add_mul]; omega
theorem con_le {g : Nat → Nat} {k : Nat} : ∀ {n : Nat}, (∀ v, v < n → g v ≤ k) → con g n ≤ con (fun _ => k) n
 | 0, _ => Nat.le_refl _
 | n + 1, h => by
  simp only [con]
  have := con_le (n := n) fun v hv => h v (by omega)
  have := Nat.mul_le_mul_right (16 ^ n) (h n (by omega))
  omega
theorem cod_range (n : Nat) : Cod (List.range n) (fun g => con g n) := by
 have hle : ∀ k g, Mo (List.range n) k g → ∀ v, v < n → g v ≤ k := fun k g hg v hv => by
  have := dg_le (g := g) (List.mem_range.2 hv)
  have := hg.2
  omega
 refine ⟨fun k g h hk hg hh e => ?_, fun k => ⟨con (fun _ => k) n, fun g hg => con_le (hle k g hg)⟩, fun u hu => ⟨16 ^ u, fun g => con_up g u n (List.mem_range.1 hu)⟩⟩
 have := con_inj (n := n) (fun v hv => by have := hle k g hg v hv; omega) (fun v hv => by have := hle k h hh v hv; omega) e
 refine funext fun v => ?_
 rcases Nat.lt_or_ge v n with q | q
 ·exact this v q
 ·rw [hg.1 v (by rw [List.mem_range]; omega), hh.1 v (by rw [List.mem_range]; omega)]
/-- Of what is shelled. -/
theorem mac_range {n m d : Nat} {F R : Nat → List Nat} (hn : n ≤ 10) (h : Shl (List.range n) m d F R) {k : Nat} (h1 : 1 ≤ k) (h8 : k < 8) (hb : rn m R k < 71) : rn m R (k + 1) ≤ tM k (rn m R k) :=
 mac_shl h List.nodup_range (fun v hv => by have := List.mem_range.1 hv; omega) (cod_range n) h1 h8 hb
end Go.SH
