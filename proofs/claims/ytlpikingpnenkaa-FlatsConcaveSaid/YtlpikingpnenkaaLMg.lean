/-
 KIND, KLEINSCHMIDT (by stresses): of what is shelled the spaces of functions that so many linear forms take to nought have as many leading monomials as the restrictions say. Conditions: none.
-/
import Derived.Test.YtlpikingpnenkaaLMe
set_option linter.unusedSimpArgs false
set_option linter.unusedVariables false
namespace Go.SH
open Go Go.AX
/-! ### sums over lists -/
def Ls : List Nat → (Nat → F11) → F11
 | [], _ => 0
 | v :: V, f => f v + Ls V f
theorem Ls_congr {f g : Nat → F11} : ∀ {V : List Nat}, (∀ v, v ∈ V → f v = g v) → Ls V f = Ls V g
 | [], _ => rfl
 | v :: V, h => by simp only [Ls]; rw [h v List.mem_cons_self, Ls_congr fun u hu => h u (List.mem_cons_of_mem _ hu)]
theorem f_a1 (a b c d : F11) : a + b + (c + d) = a + c + (b + d) := by grind
theorem f_m1 (a b c : F11) : a * (b + c) = a * b + a * c := by grind
theorem f_m2 (a b c : F11) : a * (b * c) = b * (a * c) := by grind
theorem f_mz (a : F11) : a * 0 = 0 := Fin.mul_zero _
theorem Ls_add (f g : Nat → F11) : ∀ V, Ls V (fun v => f v + g v) = Ls V f + Ls V g
 | [] => by simp [Ls]
 | v :: V => by simp only [Ls]; rw [Ls_add f g V, f_a1]
theorem Ls_mul (a : F11) (f : Nat → F11) : ∀ V, Ls V (fun v => a * f v) = a * Ls V f
 | [] => (f_mz a).symm
 | v :: V => by simp only [Ls]; rw [Ls_mul a f V, f_m1]
theorem Ls_zero {f : Nat → F11} : ∀ {V : List Nat}, (∀ v, v ∈ V → f v = 0) → Ls V f = 0
 | [], _ => rfl
 | v :: V, h => by simp only [Ls]; rw [h v List.mem_cons_self, Ls_zero fun u hu => h u (List.mem_cons_of_mem _ hu)]; rfl
theorem Ls_comm (f : Nat → Nat → F11) (W : List Nat) : ∀ V, Ls V (fun v => Ls W fun w => f v w) = Ls W fun w => Ls V fun v => f v w
 | [] => (Ls_zero fun _ _ => rfl).symm
 | v :: V => by simp only [Ls]; rw [Ls_comm f W V, ← Ls_add]
theorem Ls_perm {V W : List Nat} (h : V.Perm W) (f : Nat → F11) : Ls V f = Ls W f := by
 induction h with
 | nil => rfl
 | cons x _ ih => simp only [Ls]; rw [ih]
 | swap x y l => simp only [Ls]; grind
 | trans _ _ h1 h2 => rw [h1, h2]
/-- What is nought outside a part. -/
theorem Ls_part {f : Nat → F11} {V J : List Nat} (hV : V.Nodup) (hJ : J.Nodup) (hs : ∀ v, v ∈ J → v ∈ V) (h : ∀ v, v ∈ V → v ∉ J → f v = 0) : Ls V f = Ls J f := by
 induction J generalizing V with
 | nil => exact Ls_zero fun v hv => h v hv (by simp)
 | cons x J ih =>
  have hx := hs x List.mem_cons_self
  have hp := List.perm_cons_erase hx
  rw [Ls_perm hp]
  simp only [Ls]
  have hJ' := List.nodup_cons.1 hJ
  have hVe : (V.erase x).Nodup := hV.erase x
  rw [ih hVe hJ'.2 (fun v hv => (List.mem_erase_of_ne (by rintro rfl; exact hJ'.1 hv)).2 (hs v (List.mem_cons_of_mem _ hv))) fun v hv hn => by
   have := (List.Nodup.mem_erase_iff hV).1 hv
   exact h v this.2 fun q => (List.mem_cons.1 q).elim this.1 hn]
/-- A vertex as a number. -/
def zv (v : Nat) : F11 := Fin.ofNat 11 v
def zp (v : Nat) : Nat → F11
 | 0 => 1
 | a + 1 => zv v * zp v a
theorem zv_inj {u v : Nat} (hu : u < 11) (hv : v < 11) (h : zv u = zv v) : u = v := by
 have := congrArg Fin.val h
 simp only [zv, Fin.ofNat, Nat.mod_eq_of_lt hu, Nat.mod_eq_of_lt hv] at this
 exact this
theorem f_v1 (zu zw p y : F11) : p * ((zu - zw) * y) = zu * p * y - zw * (p * y) := by grind
theorem f_v3 (a b : F11) (h : a - b = 0) : a = b := by grind
theorem f_v4 (a : F11) : (0 : F11) - a * 0 = 0 := by grind
theorem f_v5 (a b : F11) : (a - a) * b = 0 := by grind
theorem f_v6 (a : F11) : 1 * a = a := by grind
theorem Ls_sub (f g : Nat → F11) : ∀ V, Ls V (fun v => f v - g v) = Ls V f - Ls V g
 | [] => by simp [Ls]
 | v :: V => by simp only [Ls]; rw [Ls_sub f g V]; grind
/-- VANDERMONDE. -/
theorem vdm : ∀ (J : List Nat), J.Nodup → (∀ v, v ∈ J → v < 11) → ∀ (y : Nat → F11), (∀ a, a < J.length → Ls J (fun v => zp v a * y v) = 0) → ∀ v, v ∈ J → y v = 0
 | [], _, _, _, _ => fun v hv => by cases hv
 | w :: J, hd, hb, y, h => by
  have hd' := List.nodup_cons.1 hd
  have h1 : ∀ v, v ∈ J → (zv v - zv w) * y v = 0 := vdm J hd'.2 (fun v hv => hb v (List.mem_cons_of_mem _ hv)) _ fun a ha => by
   have e1 := h (a + 1) (by simp only [List.length_cons]; omega)
   have e2 := h a (by simp only [List.length_cons]; omega)
   have : Ls (w :: J) (fun v => zp v a * ((zv v - zv w) * y v)) = 0 := by
    have e3 : Ls (w :: J) (fun v => zp v a * ((zv v - zv w) * y v)) = Ls (w :: J) (fun v => zp v (a + 1) * y v - zv w * (zp v a * y v)) := Ls_congr fun v _ => f_v1 _ _ _ _
    rw [e3, Ls_sub, Ls_mul, e1, e2, f_v4]
   simp only [Ls] at this
   rw [f_v5, f_mz] at this
   simpa using this
  have h2 : ∀ v, v ∈ J → y v = 0 := fun v hv => by
   refine fld11.zero_of (fun q => ?_) (h1 v hv)
   have := zv_inj (hb v (List.mem_cons_of_mem _ hv)) (hb w List.mem_cons_self) (f_v3 _ _ q)
   exact hd'.1 (this ▸ hv)
  intro v hv
  rcases List.mem_cons.1 hv with rfl | q
  ·have e := h 0 (by simp)
   simp only [Ls] at e
   rw [Ls_zero (V := J) fun u hu => by rw [h2 u hu, f_mz]] at e
   have e' : zp v 0 * y v = 0 := by simpa using e
   rw [show zp v 0 = 1 from rfl, f_v6] at e'
   exact e'
  ·exact h2 v q
/-! ### the spaces -/
/-- g's support lies in F. -/
def Sp (g : Nat → Nat) (F : List Nat) : Prop := ∀ v, 0 < g v → v ∈ F
/-- One more of u. -/
def up (g : Nat → Nat) (u : Nat) : Nat → Nat := upd g u (g u + 1)
theorem up_comm (g : Nat → Nat) (u w : Nat) : up (up g u) w = up (up g w) u := by
 by_cases e : u = w
 ·rw [e]
 ·unfold up
  rw [upd_ne g _ (Ne.symm e), upd_ne g _ e, upd_comm g _ _ e]
/-- A linear form at work. -/
def Dr (V : List Nat) (a : Nat) (c : (Nat → Nat) → F11) (g : Nat → Nat) : F11 := Ls V fun u => zp u a * c (up g u)
theorem Dr_up (V : List Nat) (a : Nat) (c : (Nat → Nat) → F11) (w : Nat) (g : Nat → Nat) : Dr V a (fun g => c (up g w)) g = Dr V a c (up g w) := Ls_congr fun u _ => by rw [up_comm]
theorem Dr_comm (V : List Nat) (a b : Nat) (c : (Nat → Nat) → F11) (g : Nat → Nat) : Dr V a (Dr V b c) g = Dr V b (Dr V a c) g := by
 unfold Dr
 have e1 : ∀ (a b : Nat), (Ls V fun u => zp u a * Ls V fun w => zp w b * c (up (up g u) w)) = Ls V fun u => Ls V fun w => zp u a * (zp w b * c (up (up g u) w)) := fun a b => Ls_congr fun u _ => (Ls_mul _ _ V).symm
 rw [e1, e1, Ls_comm]
 exact Ls_congr fun u _ => Ls_congr fun w _ => by rw [f_m2, up_comm]
/-- A shelling, by facets and restrictions. -/
structure Shl (V : List Nat) (m d : Nat) (F R : Nat → List Nat) : Prop where
 sub : ∀ i, i < m → ∀ v, v ∈ F i → v ∈ V
 nd : ∀ i, i < m → (F i).Nodup
 len : ∀ i, i < m → (F i).length = d
 rsub : ∀ i, i < m → ∀ v, v ∈ R i → v ∈ F i
 rnd : ∀ i, i < m → (R i).Nodup
 new : ∀ i, i < m → ∀ g : Nat → Nat, Sp g (F i) → ((∃ l, l < i ∧ Sp g (F l)) ↔ ¬ ∀ v, v ∈ R i → 0 < g v)
section
variable {V : List Nat} {m d : Nat} {F R : Nat → List Nat}
/-- What j linear forms take to nought. -/
def Xs (V : List Nat) (m : Nat) (F : Nat → List Nat) (j k : Nat) (c : (Nat → Nat) → F11) : Prop := (∀ g, c g ≠ 0 → Mo V k g ∧ ∃ i, i < m ∧ Sp g (F i)) ∧ ∀ a, a < j → ∀ g, Dr V a c g = 0
theorem Xs_spc (j k : Nat) : Spc (Xs V m F j k) := by
 refine ⟨⟨fun g h => absurd rfl h, fun a _ g => Ls_zero fun u _ => f_mz _⟩, fun c e hc he => ⟨fun g h => ?_, fun a ha g => ?_⟩, fun b c hc => ⟨fun g h => ?_, fun a ha g => ?_⟩⟩
 ·by_cases q : c g = 0
  ·by_cases q2 : e g = 0
   ·exact absurd (by show c g + e g = 0; rw [q, q2]; rfl) h
   ·exact he.1 g q2
  ·exact hc.1 g q
 ·have : Dr V a (fun g => c g + e g) g = Dr V a c g + Dr V a e g := by
   unfold Dr
   rw [← Ls_add]
   exact Ls_congr fun u _ => f_m1 _ _ _
  rw [this, hc.2 a ha, he.2 a ha]; rfl
 ·exact hc.1 g fun q => h (by show b * c g = 0; rw [q, f_mz])
 ·have : Dr V a (fun g => b * c g) g = b * Dr V a c g := by
   unfold Dr
   rw [← Ls_mul]
   exact Ls_congr fun u _ => f_m2 _ _ _
  rw [this, hc.2 a ha, f_mz]
theorem Mo_up {k u : Nat} {g : Nat → Nat} (hd : V.Nodup) (h : Mo V k (up g u)) : u ∈ V ∧ ∃ q, k = q + 1 ∧ Mo V q g := by
 have hu : u ∈ V := Classical.byContradiction fun q => by have := h.1 u q; unfold up at this; rw [upd_at] at this; omega
 have e := dg_set (g := g) (g u + 1) hu hd
 have h2 := h.2
 unfold up at h2
 refine ⟨hu, dg V g, by omega, fun i hi => ?_, rfl⟩
 have := h.1 i hi
 unfold up at this
 rw [upd_ne _ _ (by rintro rfl; exact hi hu)] at this; exact this
theorem Sp_up {g : Nat → Nat} {u : Nat} {G : List Nat} (h : Sp (up g u) G) : Sp g G := fun v hv => h v (by
 unfold up upd
 split <;> omega)
/-- A linear form leads from degree to degree. -/
theorem Xs_Dr (hd : V.Nodup) {j k : Nat} (b : Nat) {c : (Nat → Nat) → F11} (hc : Xs V m F j (k + 1) c) : Xs V m F j k (Dr V b c) := by
 refine ⟨fun g h => ?_, fun a ha g => ?_⟩
 ·have : ∃ u, u ∈ V ∧ c (up g u) ≠ 0 := Classical.byContradiction fun hno => h (Ls_zero fun u hu => by
   have : c (up g u) = 0 := Classical.byContradiction fun q => hno ⟨u, hu, q⟩
   rw [this, f_mz])
  obtain ⟨u, u1, u2⟩ := this
  obtain ⟨h1, i, i1, i2⟩ := hc.1 _ u2
  obtain ⟨_, q, e, h3⟩ := Mo_up hd h1
  have : q = k := by omega
  subst this
  exact ⟨h3, i, i1, Sp_up i2⟩
 ·rw [Dr_comm]
  exact Ls_zero fun u _ => by rw [hc.2 a ha, f_mz]
theorem Xs_up (hd : V.Nodup) {j k : Nat} (w : Nat) {c : (Nat → Nat) → F11} (hc : Xs V m F j (k + 1) c) : Xs V m F j k fun g => c (up g w) := by
 refine ⟨fun g h => ?_, fun a ha g => ?_⟩
 ·obtain ⟨h1, i, i1, i2⟩ := hc.1 _ h
  obtain ⟨_, q, e, h3⟩ := Mo_up hd h1
  have : q = k := by omega
  subst this
  exact ⟨h3, i, i1, Sp_up i2⟩
 ·rw [Dr_up]; exact hc.2 a ha _
end
end Go.SH
