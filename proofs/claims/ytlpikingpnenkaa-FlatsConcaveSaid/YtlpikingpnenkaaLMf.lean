/-
 Numbers modulo p: more unknowns than equations (of the elder texts). Conditions: none.
-/
import Derived.Test.YtlpikingpnenkaaSp
import Derived.Test.YtlpikingpnenkaaHK
set_option linter.unusedSimpArgs false
set_option linter.unusedVariables false
set_option linter.unusedSectionVars false
namespace Go.SH
open Go Go.AX
theorem bit_lt {s m i : Nat} (hs : s < 2 ^ m) (h : s.testBit i = true) : i < m := by
 rcases Nat.lt_or_ge i m with q | q
 ·exact q
 ·have := Nat.testBit_lt_two_pow (i := i) (Nat.lt_of_lt_of_le hs (Nat.pow_le_pow_right (by omega) q))
  rw [this] at h; cases h
theorem lt_of_bits {s m : Nat} (h : ∀ i, m ≤ i → s.testBit i = false) : s < 2 ^ m := by
 rcases Nat.lt_or_ge s (2 ^ m) with q | q
 ·exact q
 ·obtain ⟨i, h1, h2⟩ := Nat.exists_ge_and_testBit_of_ge_two_pow q
  rw [h i h1] at h2; cases h2
/-- Within. -/
def Inc (s t : Nat) : Prop := ∀ i, s.testBit i = true → t.testBit i = true
theorem sub_iff_and (s t : Nat) : s &&& t = s ↔ Inc s t := by
 constructor
 ·intro h i hs
  have := congrArg (fun x => Nat.testBit x i) h
  simp only [Nat.testBit_and, hs, Bool.true_and] at this
  exact this
 ·intro h
  apply Nat.eq_of_testBit_eq; intro i
  rw [Nat.testBit_and]
  cases hs : s.testBit i
  ·rfl
  ·rw [h i hs]; rfl
theorem Inc.trans {a b c : Nat} (h : Inc a b) (k : Inc b c) : Inc a c := fun i hi => k i (h i hi)
instance instIncDec (a b : Nat) : Decidable (Inc a b) := decidable_of_iff (a &&& b = a) (sub_iff_and a b)
theorem mem_getD {L : List Nat} {a : Nat} : a ∈ L ↔ ∃ k, k < L.length ∧ L.getD k 0 = a := by
 rw [List.mem_iff_getElem?]
 constructor
 ·rintro ⟨i, hi⟩
  exact ⟨i, (List.getElem?_eq_some_iff.1 hi).1, by rw [List.getD_eq_getElem?_getD, hi]; rfl⟩
 ·rintro ⟨k, h1, h2⟩
  refine ⟨k, ?_⟩
  rw [List.getElem?_eq_getElem h1]
  rw [List.getD_eq_getElem?_getD, List.getElem?_eq_getElem h1] at h2
  exact congrArg some h2
/-- A family: sets of m elements, rising. -/
structure Fam (m : Nat) (L : List Nat) : Prop where
 m8 : m ≤ 8
 lt : ∀ s, s ∈ L → s < 2 ^ m
 rise : ∀ i j, i < j → j < L.length → L.getD i 0 < L.getD j 0
theorem Fam.ge {m : Nat} {L : List Nat} (h : Fam m L) : ∀ k, k < L.length → k ≤ L.getD k 0 := fun k => by
 induction k with
 | zero => intro _; exact Nat.zero_le _
 | succ k ih => intro hk; have := ih (by omega); have := h.rise k (k + 1) (by omega) hk; omega
theorem Fam.len {m : Nat} {L : List Nat} (h : Fam m L) : L.length ≤ 256 := by
 rcases Nat.eq_zero_or_pos L.length with q | q
 ·omega
 ·have h1 := h.ge (L.length - 1) (by omega)
  have h2 := h.lt _ (mem_getD.2 ⟨L.length - 1, by omega, rfl⟩)
  have := pow_le8 h.m8
  omega
theorem Inc.refl (a : Nat) : Inc a a := fun _ h => h
theorem Inc.lt {a b m : Nat} (h : Inc a b) (hb : b < 2 ^ m) : a < 2 ^ m := lt_of_bits fun i hi => by
 cases q : a.testBit i
 ·rfl
 ·have := bit_lt hb (h i q); omega
/-- Numbers that have inverses. -/
structure Fld (p : Nat) [NeZero p] : Prop where
 one : (1 : Fin p) ≠ 0
 inv : ∀ a : Fin p, a ≠ 0 → ∃ b, a * b = 1
section
variable {p : Nat} [NeZero p]
theorem Fld.mul_ne (hp : Fld p) {a b : Fin p} (ha : a ≠ 0) (hb : b ≠ 0) : a * b ≠ 0 := by
 obtain ⟨c, hc⟩ := hp.inv a ha
 intro h
 exact hb (by grind)
theorem Fld.zero_of (hp : Fld p) {a b : Fin p} (ha : a ≠ 0) (h : a * b = 0) : b = 0 :=
 Classical.byContradiction fun hb => hp.mul_ne ha hb h
def Sm : Nat → (Nat → Fin p) → Fin p
 | 0, _ => 0
 | n + 1, f => Sm n f + f n
theorem Sm_congr {f g : Nat → Fin p} : ∀ {n : Nat}, (∀ i, i < n → f i = g i) → Sm n f = Sm n g
 | 0, _ => rfl
 | n + 1, h => by rw [Sm, Sm, Sm_congr fun i hi => h i (by omega), h n (by omega)]
theorem Sm_add (f g : Nat → Fin p) : ∀ n, Sm n (fun i => f i + g i) = Sm n f + Sm n g
 | 0 => by simp [Sm]
 | n + 1 => by rw [Sm, Sm, Sm, Sm_add f g n]; grind
theorem Sm_mulr (a : Fin p) (f : Nat → Fin p) : ∀ n, Sm n (fun i => f i * a) = Sm n f * a
 | 0 => by simp only [Sm]; grind
 | n + 1 => by rw [Sm, Sm, Sm_mulr a f n]; grind
theorem Sm_neg (f : Nat → Fin p) : ∀ n, Sm n (fun i => - f i) = - Sm n f
 | 0 => by simp only [Sm]; grind
 | n + 1 => by rw [Sm, Sm, Sm_neg f n]; grind
theorem Sm_sub (f g : Nat → Fin p) (n : Nat) : Sm n (fun i => f i - g i) = Sm n f - Sm n g := by
 have h1 := Sm_add f (fun i => - g i) n
 rw [Sm_neg] at h1
 rw [Sm_congr (g := fun i => f i + - g i) (fun i _ => by grind), h1]; grind
theorem Sm_zero {f : Nat → Fin p} : ∀ {n : Nat}, (∀ i, i < n → f i = 0) → Sm n f = 0
 | 0, _ => rfl
 | n + 1, h => by rw [Sm, Sm_zero fun i hi => h i (by omega), h n (by omega)]; simp
theorem Sm_one {f : Nat → Fin p} {k : Nat} : ∀ {n : Nat}, k < n → (∀ i, i < n → i ≠ k → f i = 0) → Sm n f = f k
 | 0, h, _ => by omega
 | n + 1, hk, h => by
  rw [Sm]
  rcases Nat.lt_or_ge k n with c | c
  ·rw [Sm_one c fun i hi hne => h i (by omega) hne, h n (by omega) (by omega)]; simp
  ·have e : k = n := by omega
   subst e
   rw [Sm_zero fun i hi => h i (by omega) (by omega)]; simp
/-- Past one. -/
def sk (k i : Nat) : Nat := if i < k then i else i + 1
theorem sk_lt {k i n : Nat} (h : i < n) : sk k i < n + 1 := by unfold sk; split <;> omega
theorem sk_ne (k i : Nat) : sk k i ≠ k := by unfold sk; split <;> omega
theorem Sm_sk {k : Nat} (f : Nat → Fin p) : ∀ {n : Nat}, k < n + 1 → Sm (n + 1) f = f k + Sm n (fun i => f (sk k i))
  | 0, h => by have e : k = 0 := by omega
               subst e; simp [Sm]
  | n + 1, h => by
    rcases Nat.lt_or_ge k (n + 1) with c | c
    · have e : sk k n = n + 1 := by unfold sk; rw [if_neg (by omega)]
      rw [Sm, Sm_sk f c]
      conv => rhs; rw [Sm, e]
      grind
    · have e : k = n + 1 := by omega
      subst e
      rw [Sm, Sm_congr (n := n + 1) (g := fun i => f (sk (n + 1) i)) (fun i hi => by unfold sk; rw [if_pos hi])]
      grind
theorem nt1 (c x y b z : Fin p) : c * (x - y * b * z) = c * x - c * (y * b) * z := by grind
theorem nt2 {x y z : Fin p} (h : x - y * z = 0) : -y * z + x = 0 := by grind
theorem nt3 (c x : Fin p) {b z : Fin p} (h : z * b = 1) : c * x = c * (x * b) * z := by grind
theorem nt5 (x : Fin p) : x * 0 = 0 := by grind
theorem nt4 (x y : Fin p) : -x * y + x * y = 0 := by grind
/-- More unknowns than equations. -/
theorem nontriv (hp : Fld p) : ∀ (r k : Nat) (a : Nat → Nat → Fin p), r < k → ∃ c : Nat → Fin p, (∃ i, i < k ∧ c i ≠ 0) ∧ ∀ j, j < r → Sm k (fun i => c i * a i j) = 0
 | 0, k, a, h => ⟨fun _ => 1, ⟨0, h, hp.one⟩, fun j hj => by omega⟩
 | r + 1, 0, a, h => by omega
 | r + 1, k + 1, a, h => by
  rcases Classical.em (∃ i, i < k + 1 ∧ a i r ≠ 0) with ⟨i0, h0, hne⟩ | hall
  ·obtain ⟨b, hb⟩ := hp.inv _ hne
   obtain ⟨c, ⟨i1, hi1, hc1⟩, hc⟩ := nontriv hp r k (fun i j => a (sk i0 i) j - a (sk i0 i) r * b * a i0 j) (by omega)
   -- the rest's numbers, put past i0
   obtain ⟨d, hd0, hd1⟩ : ∃ d : Nat → Fin p, d i0 = - Sm k (fun i => c i * (a (sk i0 i) r * b)) ∧ ∀ i, d (sk i0 i) = c i := by
    refine ⟨fun j => if j = i0 then - Sm k (fun i => c i * (a (sk i0 i) r * b)) else if j < i0 then c j else c (j - 1), by simp, fun i => ?_⟩
    show (if sk i0 i = i0 then _ else _) = _
    rw [if_neg (sk_ne i0 i)]
    unfold sk
    by_cases q : i < i0
    ·rw [if_pos q, if_pos q]
    ·rw [if_neg q, if_neg (by omega)]; rfl
   refine ⟨d, ⟨sk i0 i1, sk_lt hi1, by rw [hd1]; exact hc1⟩, fun j hj => ?_⟩
   have e1 : Sm k (fun i => d (sk i0 i) * a (sk i0 i) j) = Sm k (fun i => c i * a (sk i0 i) j) := Sm_congr fun i _ => by rw [hd1]
   rw [Sm_sk _ h0, hd0, e1]
   rcases Nat.lt_or_ge j r with q | q
   ·have h1 := hc j q
    rw [Sm_congr (g := fun i => c i * a (sk i0 i) j - c i * (a (sk i0 i) r * b) * a i0 j) (fun i _ => nt1 _ _ _ _ _), Sm_sub, Sm_mulr] at h1
    exact nt2 h1
   ·have e : j = r := by omega
    subst e
    have h2 : Sm k (fun i => c i * a (sk i0 i) j) = Sm k (fun i => c i * (a (sk i0 i) j * b)) * a i0 j := by
     rw [← Sm_mulr]
     exact Sm_congr fun i _ => nt3 _ _ hb
    rw [h2]; exact nt4 _ _
  ·obtain ⟨c, h1, h2⟩ := nontriv hp r (k + 1) a (by omega)
   refine ⟨c, h1, fun j hj => ?_⟩
   rcases Nat.lt_or_ge j r with q | q
   ·exact h2 j q
   ·have e : j = r := by omega
    subst e
    exact Sm_zero fun i hi => by
     have : a i j = 0 := Classical.byContradiction fun hne => hall ⟨i, hi, hne⟩
     rw [this]; exact nt5 _
end
end Go.SH
