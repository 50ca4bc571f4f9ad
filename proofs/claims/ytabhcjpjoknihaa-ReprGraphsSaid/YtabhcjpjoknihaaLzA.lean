/-
  Relations of columns modulo p: neither FANO's matroid nor its dual over numbers in which 2 is not 0; not four points on a line over two numbers. Conditions: none.
-/
import Derived.Test.YtabhcjpjoknihaaLzF
set_option linter.unusedSimpArgs false
set_option linter.unusedVariables false
set_option linter.unusedSectionVars false
namespace Go.SH
open Go Go.AX

section
variable {p : Nat} [NeZero p]
/-- What is nought together, of k things with these ranks. -/
structure RelS (p k : Nat) [NeZero p] (RB : Nat → Nat) (𝓡 : (Nat → Fin p) → Prop) : Prop where
  lin : ∀ (a b : Fin p) ρ σ, 𝓡 ρ → 𝓡 σ → 𝓡 (fun i => a * ρ i + b * σ i)
  ind : ∀ s, s < 2 ^ k → RB s = cnt k s → ∀ ρ, 𝓡 ρ → (∀ i, i < k → s.testBit i = false → ρ i = 0) → ∀ i, i < k → ρ i = 0
  dep : ∀ s, s < 2 ^ k → RB s < cnt k s → ∃ ρ, 𝓡 ρ ∧ (∀ i, i < k → s.testBit i = false → ρ i = 0) ∧ ∃ i, i < k ∧ ρ i ≠ 0
variable {k : Nat} {RB : Nat → Nat} {𝓡 : (Nat → Fin p) → Prop}
theorem RelS.circ (h : RelS p k RB 𝓡) {s : Nat} (hs : s < 2 ^ k) (hd : RB s < cnt k s) (hi : ∀ i, i < k → s.testBit i = true → RB (dif s (2 ^ i)) = cnt k (dif s (2 ^ i))) :
    ∃ ρ, 𝓡 ρ ∧ (∀ i, i < k → s.testBit i = false → ρ i = 0) ∧ ∀ i, i < k → s.testBit i = true → ρ i ≠ 0 := by
  obtain ⟨ρ, r1, r2, j, j1, j2⟩ := h.dep s hs hd
  refine ⟨ρ, r1, r2, fun i hik his e => j2 (h.ind _ (dif_lt hs) (hi i hik his) ρ r1 (fun x hx hxs => ?_) j j1)⟩
  rw [testBit_dif, testBit_pow] at hxs
  by_cases q : i = x
  · rw [← q]; exact e
  · refine r2 x hx ?_
    simpa [q] using hxs
theorem RelS.lin4 (h : RelS p k RB 𝓡) (a b c d : Fin p) {ρ σ τ υ : Nat → Fin p} (h1 : 𝓡 ρ) (h2 : 𝓡 σ) (h3 : 𝓡 τ) (h4 : 𝓡 υ) : 𝓡 fun i => (a * ρ i + b * σ i) + (c * τ i + d * υ i) := by
  have := h.lin 1 1 _ _ (h.lin a b _ _ h1 h2) (h.lin c d _ _ h3 h4)
  have e : (fun i => 1 * (a * ρ i + b * σ i) + 1 * (c * τ i + d * υ i)) = fun i => (a * ρ i + b * σ i) + (c * τ i + d * υ i) := funext fun i => by grind
  rwa [e] at this
theorem RelS.lin3 (h : RelS p k RB 𝓡) (a b c : Fin p) {ρ σ τ : Nat → Fin p} (h1 : 𝓡 ρ) (h2 : 𝓡 σ) (h3 : 𝓡 τ) : 𝓡 fun i => (a * ρ i + b * σ i) + c * τ i := by
  have := h.lin 1 1 _ _ (h.lin a b _ _ h1 h2) (h.lin c 0 _ _ h3 h3)
  have e : (fun i => 1 * (a * ρ i + b * σ i) + 1 * (c * τ i + 0 * τ i)) = fun i => (a * ρ i + b * σ i) + c * τ i := funext fun i => by grind
  rwa [e] at this
theorem canc (hp : Fld p) {c x y : Fin p} (hc : c ≠ 0) (h : c * x = c * y) : x = y := by
  have : c * (x - y) = 0 := by grind
  have := hp.zero_of hc this
  grind
theorem dbl (hp : Fld p) (h2 : (1 : Fin p) + 1 ≠ 0) {x : Fin p} (h : x = - x) : x = 0 := by
  refine hp.zero_of h2 ?_
  have : (1 + 1) * x = x + x := by grind
  rw [this]
  grind
def u24 : List Nat := [3, 5, 6, 9, 10, 12]
def fanoB : List Nat := [7, 13, 14, 19, 21, 25, 26, 28, 35, 37, 38, 41, 42, 50, 52, 56, 67, 70, 73, 74, 76, 81, 82, 84, 97, 100, 104, 112]
def fanoD : List Nat := [15, 23, 27, 30, 43, 45, 46, 51, 53, 54, 57, 60, 71, 75, 77, 85, 86, 89, 90, 92, 99, 101, 102, 106, 108, 113, 114, 120]
theorem f2one : ∀ a : Fin 2, a ≠ 0 → a = 1 := by decide
theorem no_u24 {𝓡 : (Nat → Fin 2) → Prop} (h : RelS 2 4 (rk 4 u24) 𝓡) : False := by
  obtain ⟨ρ, r1, r2, r3⟩ := h.circ (s := 7) (by decide) (by decide +kernel) (by decide +kernel)
  obtain ⟨σ, s1, s2, s3⟩ := h.circ (s := 11) (by decide) (by decide +kernel) (by decide +kernel)
  have a0 := f2one _ (r3 0 (by omega) (by decide))
  have a1 := f2one _ (r3 1 (by omega) (by decide))
  have a2 := f2one _ (r3 2 (by omega) (by decide))
  have b0 := f2one _ (s3 0 (by omega) (by decide))
  have b1 := f2one _ (s3 1 (by omega) (by decide))
  have b2 := s2 2 (by omega) (by decide)
  have := h.ind 12 (by decide) (by decide +kernel) _ (h.lin 1 1 _ _ r1 s1) (fun i hi hs => by
    rcases (show i = 0 ∨ i = 1 ∨ i = 2 ∨ i = 3 by omega) with rfl | rfl | rfl | rfl
    · simp only [a0, b0]; decide
    · simp only [a1, b1]; decide
    · exact absurd hs (by decide)
    · exact absurd hs (by decide)) 2 (by omega)
  simp only [a2, b2] at this
  revert this
  decide
theorem seven {i : Nat} (h : i < 7) : i = 0 ∨ i = 1 ∨ i = 2 ∨ i = 3 ∨ i = 4 ∨ i = 5 ∨ i = 6 := by omega
theorem fano_end (hp : Fld p) (h2 : (1 : Fin p) + 1 ≠ 0) {a0 a1 a3 b1 b2 b4 g0 g2 g6 d2 d3 d5 e0 e4 e5 z1 z5 z6 h3 h4 h6 : Fin p} (na3 : a3 ≠ 0) (nb1 : b1 ≠ 0) (nb4 : b4 ≠ 0) (ng0 : g0 ≠ 0) (ng2 : g2 ≠ 0) (ng6 : g6 ≠ 0) (nd3 : d3 ≠ 0) (ne5 : e5 ≠ 0) (nz5 : z5 ≠ 0) (nh4 : h4 ≠ 0) (nh6 : h6 ≠ 0) (nh3 : h3 ≠ 0)
    (q1 : e5 * d3 * b4 * a1 = d5 * e4 * a3 * b1) (q2 : a3 * (b4 * e5 * d2) = a3 * (-(d5 * e4 * b2))) (q3 : z5 * d3 * g6 * a0 = d5 * z6 * a3 * g0) (q4 : a3 * (g6 * z5 * d2) = a3 * (-(d5 * z6 * g2)))
    (q5 : b4 * (h3 * g6 * a0) = b4 * (-(h6 * a3 * g0))) (q6 : g6 * (h3 * b4 * a1) = g6 * (-(h4 * a3 * b1))) (q7 : a3 * (h4 * g6 * b2) = a3 * (-(h6 * b4 * g2))) : False := by
  have q2 := canc hp na3 q2
  have q4 := canc hp na3 q4
  have q5 := canc hp nb4 q5
  have q6 := canc hp ng6 q6
  have q7 := canc hp na3 q7
  have p8 : d3 * (a1 * b2) = -(a3 * b1 * d2) := canc hp (hp.mul_ne ne5 nb4) (by grind)
  have p9 : d3 * (a0 * g2) = -(a3 * g0 * d2) := canc hp (hp.mul_ne nz5 ng6) (by grind)
  have p10 : a1 * b2 * g0 = b1 * a0 * g2 := canc hp nd3 (by grind)
  have l1 : a1 * b2 * g0 * (h3 * h4 * b4 * g6) = h4 * h6 * a3 * b4 * b1 * g2 * g0 := by
    have : a1 * b2 * g0 * (h3 * h4 * b4 * g6) = (h3 * b4 * a1) * (h4 * g6 * b2) * g0 := by grind
    rw [this, q6, q7]; grind
  have l2 : b1 * a0 * g2 * (h3 * h4 * b4 * g6) = -(h4 * h6 * a3 * b4 * b1 * g2 * g0) := by
    have : b1 * a0 * g2 * (h3 * h4 * b4 * g6) = (h3 * g6 * a0) * (b1 * g2 * h4 * b4) := by grind
    rw [this, q5]; grind
  rw [p10, l2] at l1
  have := dbl hp h2 l1.symm
  exact hp.mul_ne (hp.mul_ne (hp.mul_ne (hp.mul_ne (hp.mul_ne (hp.mul_ne nh4 nh6) na3) nb4) nb1) ng2) ng0 this
theorem no_fano (hp : Fld p) (h2 : (1 : Fin p) + 1 ≠ 0) {𝓡 : (Nat → Fin p) → Prop} (h : RelS p 7 (rk 7 fanoB) 𝓡) : False := by
  obtain ⟨A, A1, A2, A3⟩ := h.circ (s := 11) (by decide) (by decide +kernel) (by decide +kernel)
  obtain ⟨B, B1, B2, B3⟩ := h.circ (s := 22) (by decide) (by decide +kernel) (by decide +kernel)
  obtain ⟨G, G1, G2, G3⟩ := h.circ (s := 69) (by decide) (by decide +kernel) (by decide +kernel)
  obtain ⟨D, D1, D2, D3⟩ := h.circ (s := 44) (by decide) (by decide +kernel) (by decide +kernel)
  obtain ⟨E, E1, E2, E3⟩ := h.circ (s := 49) (by decide) (by decide +kernel) (by decide +kernel)
  obtain ⟨Z, Z1, Z2, Z3⟩ := h.circ (s := 98) (by decide) (by decide +kernel) (by decide +kernel)
  obtain ⟨H, H1, H2, H3⟩ := h.circ (s := 88) (by decide) (by decide +kernel) (by decide +kernel)
  have i7 : rk 7 fanoB 7 = cnt 7 7 := by decide +kernel
  have A_2 := A2 2 (by omega) (by decide); have A_4 := A2 4 (by omega) (by decide); have A_5 := A2 5 (by omega) (by decide); have A_6 := A2 6 (by omega) (by decide)
  have B_0 := B2 0 (by omega) (by decide); have B_3 := B2 3 (by omega) (by decide); have B_5 := B2 5 (by omega) (by decide); have B_6 := B2 6 (by omega) (by decide)
  have G_1 := G2 1 (by omega) (by decide); have G_3 := G2 3 (by omega) (by decide); have G_4 := G2 4 (by omega) (by decide); have G_5 := G2 5 (by omega) (by decide)
  have D_0 := D2 0 (by omega) (by decide); have D_1 := D2 1 (by omega) (by decide); have D_4 := D2 4 (by omega) (by decide); have D_6 := D2 6 (by omega) (by decide)
  have E_1 := E2 1 (by omega) (by decide); have E_2 := E2 2 (by omega) (by decide); have E_3 := E2 3 (by omega) (by decide); have E_6 := E2 6 (by omega) (by decide)
  have Z_0 := Z2 0 (by omega) (by decide); have Z_2 := Z2 2 (by omega) (by decide); have Z_3 := Z2 3 (by omega) (by decide); have Z_4 := Z2 4 (by omega) (by decide)
  have H_0 := H2 0 (by omega) (by decide); have H_1 := H2 1 (by omega) (by decide); have H_2 := H2 2 (by omega) (by decide); have H_5 := H2 5 (by omega) (by decide)
  have V1 := h.ind 7 (by decide) i7 _ (h.lin4 (A 3 * B 4 * E 5) (-(A 3 * B 4 * D 5)) (-(E 5 * D 3 * B 4)) (D 5 * E 4 * A 3) D1 E1 A1 B1) fun i hi hs => by
    rcases seven hi with rfl | rfl | rfl | rfl | rfl | rfl | rfl <;> first | exact absurd hs (by decide) | (simp only [A_4, A_5, A_6, B_3, B_5, B_6, D_4, D_6, E_3, E_6]; grind)
  have V2 := h.ind 7 (by decide) i7 _ (h.lin4 (A 3 * G 6 * Z 5) (-(A 3 * G 6 * D 5)) (-(Z 5 * D 3 * G 6)) (D 5 * Z 6 * A 3) D1 Z1 A1 G1) fun i hi hs => by
    rcases seven hi with rfl | rfl | rfl | rfl | rfl | rfl | rfl <;> first | exact absurd hs (by decide) | (simp only [A_4, A_5, A_6, G_3, G_4, G_5, D_4, D_6, Z_3, Z_4]; grind)
  have V3 := h.ind 7 (by decide) i7 _ (h.lin4 (A 3 * B 4 * G 6) (-(H 3 * B 4 * G 6)) (-(H 4 * A 3 * G 6)) (-(H 6 * A 3 * B 4)) H1 A1 B1 G1) fun i hi hs => by
    rcases seven hi with rfl | rfl | rfl | rfl | rfl | rfl | rfl <;> first | exact absurd hs (by decide) | (simp only [A_4, A_5, A_6, B_3, B_5, B_6, G_3, G_4, G_5, H_5]; grind)
  have w11 := V1 1 (by omega); have w12 := V1 2 (by omega)
  have w20 := V2 0 (by omega); have w22 := V2 2 (by omega)
  have w30 := V3 0 (by omega); have w31 := V3 1 (by omega); have w32 := V3 2 (by omega)
  simp only [D_1, E_1] at w11
  simp only [E_2, A_2] at w12
  simp only [D_0, Z_0] at w20
  simp only [Z_2, A_2] at w22
  simp only [H_0, B_0] at w30
  simp only [H_1, G_1] at w31
  simp only [H_2, A_2] at w32
  exact fano_end hp h2 (a0 := A 0) (a1 := A 1) (a3 := A 3) (b1 := B 1) (b2 := B 2) (b4 := B 4) (g0 := G 0) (g2 := G 2) (g6 := G 6) (d2 := D 2) (d3 := D 3) (d5 := D 5) (e0 := E 0) (e4 := E 4) (e5 := E 5) (z1 := Z 1) (z5 := Z 5) (z6 := Z 6) (h3 := H 3) (h4 := H 4) (h6 := H 6)
    (A3 3 (by omega) (by decide)) (B3 1 (by omega) (by decide)) (B3 4 (by omega) (by decide)) (G3 0 (by omega) (by decide)) (G3 2 (by omega) (by decide)) (G3 6 (by omega) (by decide)) (D3 3 (by omega) (by decide)) (E3 5 (by omega) (by decide)) (Z3 5 (by omega) (by decide)) (H3 4 (by omega) (by decide)) (H3 6 (by omega) (by decide)) (H3 3 (by omega) (by decide))
    (by grind) (by grind) (by grind) (by grind) (by grind) (by grind) (by grind)
theorem no_fanoD (hp : Fld p) (h2 : (1 : Fin p) + 1 ≠ 0) {𝓡 : (Nat → Fin p) → Prop} (h : RelS p 7 (rk 7 fanoD) 𝓡) : False := by
  obtain ⟨A, A1, A2, A3⟩ := h.circ (s := 116) (by decide) (by decide +kernel) (by decide +kernel)
  obtain ⟨B, B1, B2, B3⟩ := h.circ (s := 105) (by decide) (by decide +kernel) (by decide +kernel)
  obtain ⟨C, C1, C2, C3⟩ := h.circ (s := 83) (by decide) (by decide +kernel) (by decide +kernel)
  obtain ⟨D, D1, D2, D3⟩ := h.circ (s := 39) (by decide) (by decide +kernel) (by decide +kernel)
  obtain ⟨E, E1, E2, E3⟩ := h.circ (s := 78) (by decide) (by decide +kernel) (by decide +kernel)
  obtain ⟨F, F1, F2, F3⟩ := h.circ (s := 29) (by decide) (by decide +kernel) (by decide +kernel)
  obtain ⟨G, G1, G2, G3⟩ := h.circ (s := 58) (by decide) (by decide +kernel) (by decide +kernel)
  have A_0 := A2 0 (by omega) (by decide); have A_1 := A2 1 (by omega) (by decide); have A_3 := A2 3 (by omega) (by decide)
  have B_1 := B2 1 (by omega) (by decide); have B_2 := B2 2 (by omega) (by decide); have B_4 := B2 4 (by omega) (by decide)
  have C_2 := C2 2 (by omega) (by decide); have C_3 := C2 3 (by omega) (by decide); have C_5 := C2 5 (by omega) (by decide)
  have D_3 := D2 3 (by omega) (by decide); have D_4 := D2 4 (by omega) (by decide); have D_6 := D2 6 (by omega) (by decide)
  have E_0 := E2 0 (by omega) (by decide); have E_4 := E2 4 (by omega) (by decide); have E_5 := E2 5 (by omega) (by decide)
  have F_1 := F2 1 (by omega) (by decide); have F_5 := F2 5 (by omega) (by decide); have F_6 := F2 6 (by omega) (by decide)
  have G_0 := G2 0 (by omega) (by decide); have G_2 := G2 2 (by omega) (by decide); have G_6 := G2 6 (by omega) (by decide)
  have U1 := h.ind 60 (by decide) (by decide +kernel) _ (h.lin3 (G 1 * D 0) (-(G 1 * F 0)) (F 0 * D 1) F1 D1 G1) (fun i hi hs => by
    rcases seven hi with rfl | rfl | rfl | rfl | rfl | rfl | rfl <;> first | exact absurd hs (by decide) | (simp only [D_6, F_1, F_6, G_0, G_6]; grind)) 2 (by omega)
  have U2 := h.ind 92 (by decide) (by decide +kernel) _ (h.lin3 (E 1 * C 0) (-(E 1 * F 0)) (F 0 * C 1) F1 C1 E1) (fun i hi hs => by
    rcases seven hi with rfl | rfl | rfl | rfl | rfl | rfl | rfl <;> first | exact absurd hs (by decide) | (simp only [C_5, F_1, F_5, E_0, E_5]; grind)) 4 (by omega)
  have U3 := h.ind 120 (by decide) (by decide +kernel) _ (h.lin3 (B 0 * A 2) (-(B 0 * F 2)) (-(A 2 * F 0)) F1 A1 B1) (fun i hi hs => by
    rcases seven hi with rfl | rfl | rfl | rfl | rfl | rfl | rfl <;> first | exact absurd hs (by decide) | (simp only [A_0, A_1, F_1, B_1, B_2]; grind)) 4 (by omega)
  have U4 := h.ind 114 (by decide) (by decide +kernel) _ (h.lin3 (A 2 * D 0) (-(A 2 * C 0)) (C 0 * D 2) C1 D1 A1) (fun i hi hs => by
    rcases seven hi with rfl | rfl | rfl | rfl | rfl | rfl | rfl <;> first | exact absurd hs (by decide) | (simp only [A_0, A_3, C_2, C_3, D_3]; grind)) 4 (by omega)
  simp only [G_2] at U1
  simp only [E_4] at U2
  simp only [B_4] at U3
  simp only [D_4] at U4
  have n := fun i hi hs => F3 i hi hs
  have e1 : D 0 * F 2 = F 0 * D 2 := canc hp (G3 1 (by omega) (by decide)) (by grind)
  have e2 : C 0 * F 4 = F 0 * C 4 := canc hp (E3 1 (by omega) (by decide)) (by grind)
  have e3 : A 2 * F 4 = F 2 * A 4 := canc hp (B3 0 (by omega) (by decide)) (by grind)
  have e4 : A 2 * D 0 * C 4 = -(C 0 * D 2 * A 4) := by grind
  have e5 : A 2 * D 0 * C 4 = C 0 * D 2 * A 4 := canc hp (F3 0 (by omega) (by decide)) (by
    have t1 : F 0 * (A 2 * D 0 * C 4) = A 2 * D 0 * (F 0 * C 4) := by grind
    have t2 : A 2 * D 0 * (C 0 * F 4) = (A 2 * F 4) * (D 0 * C 0) := by grind
    have t3 : F 2 * A 4 * (D 0 * C 0) = (D 0 * F 2) * (A 4 * C 0) := by grind
    rw [t1, ← e2, t2, e3, t3, e1]; grind)
  rw [e4] at e5
  have := dbl hp h2 e5.symm
  exact hp.mul_ne (hp.mul_ne (C3 0 (by omega) (by decide)) (D3 2 (by omega) (by decide))) (A3 4 (by omega) (by decide)) this
end
end Go.SH
