/-
  Numbers modulo p: sums; more unknowns than equations have an answer that is not nought. Matrices of integers as matrices modulo p: entries, what is nought with all rows, what elimination does. What elimination keeps, column by column; at its end as many rows as columns just if nothing but nought is nought with all rows. How the code finds whether some columns hang on one another (kinds.rankOf). Matrices as the code checks them; the columns' sets that do not hang on one another, as the code finds them.  Conditions: none.
-/
import Derived.Test.YtdhbpoafkhojnaaLM
import Derived.Test.YtdhbpoafkhojnaaLOc
import Derived.Test.YtdhbpoafkhojnaaLGk
import Derived.Test.YtdhbpoafkhojnaaSp

set_option linter.unusedSimpArgs false
set_option linter.unusedVariables false
set_option linter.unusedSectionVars false
namespace Go.SH
open Go Go.AX

/-- Numbers that have inverses. -/
structure Fld (p : Nat) [NeZero p] : Prop where
  one : (1 : Fin p) ≠ 0
  inv : ∀ a : Fin p, a ≠ 0 → ∃ b, a * b = 1
theorem fld2 : Fld 2 := ⟨by decide, by decide⟩
theorem fld3 : Fld 3 := ⟨by decide, by decide⟩
theorem fld5 : Fld 5 := ⟨by decide, by decide⟩
theorem fld7 : Fld 7 := ⟨by decide, by decide⟩

section
variable {p : Nat} [NeZero p]
theorem Fld.mul_ne (hp : Fld p) {a b : Fin p} (ha : a ≠ 0) (hb : b ≠ 0) : a * b ≠ 0 := by
  obtain ⟨c, hc⟩ := hp.inv a ha
  intro h
  exact hb (by grind)
theorem Fld.zero_of (hp : Fld p) {a b : Fin p} (ha : a ≠ 0) (h : a * b = 0) : b = 0 :=
  Classical.byContradiction fun hb => hp.mul_ne ha hb h

def Sm : Nat → (Nat → Fin p) → Fin p
  | 0, _ => 0
  | n + 1, f => Sm n f + f n
theorem Sm_congr {f g : Nat → Fin p} : ∀ {n : Nat}, (∀ i, i < n → f i = g i) → Sm n f = Sm n g
  | 0, _ => rfl
  | n + 1, h => by rw [Sm, Sm, Sm_congr fun i hi => h i (by omega), h n (by omega)]
theorem Sm_add (f g : Nat → Fin p) : ∀ n, Sm n (fun i => f i + g i) = Sm n f + Sm n g
  | 0 => by simp [Sm]
  | n + 1 => by rw [Sm, Sm, Sm, Sm_add f g n]; grind
theorem Sm_mul (a : Fin p) (f : Nat → Fin p) : ∀ n, Sm n (fun i => a * f i) = a * Sm n f
  | 0 => by simp only [Sm]; grind
  | n + 1 => by rw [Sm, Sm, Sm_mul a f n]; grind
theorem Sm_mulr (a : Fin p) (f : Nat → Fin p) : ∀ n, Sm n (fun i => f i * a) = Sm n f * a
  | 0 => by simp only [Sm]; grind
  | n + 1 => by rw [Sm, Sm, Sm_mulr a f n]; grind
theorem Sm_neg (f : Nat → Fin p) : ∀ n, Sm n (fun i => - f i) = - Sm n f
  | 0 => by simp only [Sm]; grind
  | n + 1 => by rw [Sm, Sm, Sm_neg f n]; grind
theorem Sm_sub (f g : Nat → Fin p) (n : Nat) : Sm n (fun i => f i - g i) = Sm n f - Sm n g := by
  have h1 := Sm_add f (fun i => - g i) n
  rw [Sm_neg] at h1
  rw [Sm_congr (g := fun i => f i + - g i) (fun i _ => by grind), h1]; grind
theorem Sm_zero {f : Nat → Fin p} : ∀ {n : Nat}, (∀ i, i < n → f i = 0) → Sm n f = 0
  | 0, _ => rfl
  | n + 1, h => by rw [Sm, Sm_zero fun i hi => h i (by omega), h n (by omega)]; simp
theorem Sm_one {f : Nat → Fin p} {k : Nat} : ∀ {n : Nat}, k < n → (∀ i, i < n → i ≠ k → f i = 0) → Sm n f = f k
  | 0, h, _ => by omega
  | n + 1, hk, h => by
    rw [Sm]
    rcases Nat.lt_or_ge k n with c | c
    · rw [Sm_one c fun i hi hne => h i (by omega) hne, h n (by omega) (by omega)]; simp
    · have e : k = n := by omega
      subst e
      rw [Sm_zero fun i hi => h i (by omega) (by omega)]; simp
theorem Sm_comm (f : Nat → Nat → Fin p) (m : Nat) : ∀ n, Sm n (fun i => Sm m (fun j => f i j)) = Sm m (fun j => Sm n (fun i => f i j))
  | 0 => by simp only [Sm]; exact (Sm_zero fun _ _ => rfl).symm
  | n + 1 => by
    simp only [Sm]
    rw [Sm_comm f m n, ← Sm_add]
theorem Sm_app (f : Nat → Fin p) (n : Nat) : ∀ m, Sm (n + m) f = Sm n f + Sm m (fun i => f (n + i))
  | 0 => by simp [Sm]
  | m + 1 => by rw [← Nat.add_assoc, Sm, Sm_app f n m, Sm]; grind
/-- Past one. -/
def sk (k i : Nat) : Nat := if i < k then i else i + 1
theorem sk_lt {k i n : Nat} (h : i < n) : sk k i < n + 1 := by unfold sk; split <;> omega
theorem sk_ne (k i : Nat) : sk k i ≠ k := by unfold sk; split <;> omega
theorem sk_inj {k i j : Nat} (h : sk k i = sk k j) : i = j := by unfold sk at h; split at h <;> split at h <;> omega
theorem sk_of {k n : Nat} (hk : k < n + 1) {j : Nat} (hj : j < n + 1) (hne : j ≠ k) : ∃ i, i < n ∧ sk k i = j := by
  rcases Nat.lt_or_ge j k with c | c
  · exact ⟨j, by omega, by unfold sk; rw [if_pos c]⟩
  · exact ⟨j - 1, by omega, by unfold sk; rw [if_neg (by omega)]; omega⟩
theorem Sm_sk {k : Nat} (f : Nat → Fin p) : ∀ {n : Nat}, k < n + 1 → Sm (n + 1) f = f k + Sm n (fun i => f (sk k i))
  | 0, h => by have e : k = 0 := by omega
               subst e; simp [Sm]
  | n + 1, h => by
    rcases Nat.lt_or_ge k (n + 1) with c | c
    · have e : sk k n = n + 1 := by unfold sk; rw [if_neg (by omega)]
      rw [Sm, Sm_sk f c]
      conv => rhs; rw [Sm, e]
      grind
    · have e : k = n + 1 := by omega
      subst e
      rw [Sm, Sm_congr (n := n + 1) (g := fun i => f (sk (n + 1) i)) (fun i hi => by unfold sk; rw [if_pos hi])]
      grind

theorem nt1 (c x y b z : Fin p) : c * (x - y * b * z) = c * x - c * (y * b) * z := by grind
theorem nt2 {x y z : Fin p} (h : x - y * z = 0) : -y * z + x = 0 := by grind
theorem nt3 (c x : Fin p) {b z : Fin p} (h : z * b = 1) : c * x = c * (x * b) * z := by grind
theorem nt5 (x : Fin p) : x * 0 = 0 := by grind
theorem nt4 (x y : Fin p) : -x * y + x * y = 0 := by grind
/-- More unknowns than equations. -/
theorem nontriv (hp : Fld p) : ∀ (r k : Nat) (a : Nat → Nat → Fin p), r < k → ∃ c : Nat → Fin p, (∃ i, i < k ∧ c i ≠ 0) ∧ ∀ j, j < r → Sm k (fun i => c i * a i j) = 0
  | 0, k, a, h => ⟨fun _ => 1, ⟨0, h, hp.one⟩, fun j hj => by omega⟩
  | r + 1, 0, a, h => by omega
  | r + 1, k + 1, a, h => by
    rcases Classical.em (∃ i, i < k + 1 ∧ a i r ≠ 0) with ⟨i0, h0, hne⟩ | hall
    · obtain ⟨b, hb⟩ := hp.inv _ hne
      obtain ⟨c, ⟨i1, hi1, hc1⟩, hc⟩ := nontriv hp r k (fun i j => a (sk i0 i) j - a (sk i0 i) r * b * a i0 j) (by omega)
      -- the rest's numbers, put past i0
      obtain ⟨d, hd0, hd1⟩ : ∃ d : Nat → Fin p, d i0 = - Sm k (fun i => c i * (a (sk i0 i) r * b)) ∧ ∀ i, d (sk i0 i) = c i := by
        refine ⟨fun j => if j = i0 then - Sm k (fun i => c i * (a (sk i0 i) r * b)) else if j < i0 then c j else c (j - 1), by simp, fun i => ?_⟩
        show (if sk i0 i = i0 then _ else _) = _
        rw [if_neg (sk_ne i0 i)]
        unfold sk
        by_cases q : i < i0
        · rw [if_pos q, if_pos q]
        · rw [if_neg q, if_neg (by omega)]; rfl
      refine ⟨d, ⟨sk i0 i1, sk_lt hi1, by rw [hd1]; exact hc1⟩, fun j hj => ?_⟩
      have e1 : Sm k (fun i => d (sk i0 i) * a (sk i0 i) j) = Sm k (fun i => c i * a (sk i0 i) j) := Sm_congr fun i _ => by rw [hd1]
      rw [Sm_sk _ h0, hd0, e1]
      rcases Nat.lt_or_ge j r with q | q
      · have h1 := hc j q
        rw [Sm_congr (g := fun i => c i * a (sk i0 i) j - c i * (a (sk i0 i) r * b) * a i0 j) (fun i _ => nt1 _ _ _ _ _), Sm_sub, Sm_mulr] at h1
        exact nt2 h1
      · have e : j = r := by omega
        subst e
        have h2 : Sm k (fun i => c i * a (sk i0 i) j) = Sm k (fun i => c i * (a (sk i0 i) j * b)) * a i0 j := by
          rw [← Sm_mulr]
          exact Sm_congr fun i _ => nt3 _ _ hb
        rw [h2]; exact nt4 _ _
    · obtain ⟨c, h1, h2⟩ := nontriv hp r (k + 1) a (by omega)
      refine ⟨c, h1, fun j hj => ?_⟩
      rcases Nat.lt_or_ge j r with q | q
      · exact h2 j q
      · have e : j = r := by omega
        subst e
        exact Sm_zero fun i hi => by
          have : a i j = 0 := Classical.byContradiction fun hne => hall ⟨i, hi, hne⟩
          rw [this]; exact nt5 _
end
end Go.SH

set_option linter.unusedSimpArgs false
set_option linter.unusedVariables false
set_option linter.unusedSectionVars false
namespace Go.SH
open Go Go.AX

/-- An integer modulo p. -/
def cF (p : Nat) [NeZero p] (x : Int) : Fin p := ⟨(x % (p : Int)).toNat, by
  have hp : 0 < p := Nat.pos_of_ne_zero (NeZero.ne p)
  have h1 := Int.emod_nonneg x (show (p : Int) ≠ 0 by omega)
  have h2 := Int.emod_lt_of_pos x (show (0 : Int) < p by omega)
  omega⟩
section
variable {p : Nat} [NeZero p]
theorem pposZ : (0 : Int) < p := by have := Nat.pos_of_ne_zero (NeZero.ne p); omega
theorem cF_val (x : Int) : (((cF p x).val : Nat) : Int) = x % (p : Int) := Int.toNat_of_nonneg (Int.emod_nonneg x (Int.ne_of_gt pposZ))
theorem cF_ext {x y : Int} (h : x % (p : Int) = y % (p : Int)) : cF p x = cF p y := by
  apply Fin.ext
  have h1 := cF_val (p := p) x
  have h2 := cF_val (p := p) y
  omega
theorem cF_add (x y : Int) : cF p (x + y) = cF p x + cF p y := by
  apply Fin.ext
  apply Int.ofNat.inj
  show (((cF p (x + y)).val : Nat) : Int) = (((cF p x + cF p y).val : Nat) : Int)
  rw [cF_val, Fin.val_add, Int.natCast_emod, Int.natCast_add, cF_val, cF_val, ← Int.add_emod]
theorem cF_mul (x y : Int) : cF p (x * y) = cF p x * cF p y := by
  apply Fin.ext
  apply Int.ofNat.inj
  show (((cF p (x * y)).val : Nat) : Int) = (((cF p x * cF p y).val : Nat) : Int)
  rw [cF_val, Fin.val_mul, Int.natCast_emod, Int.natCast_mul, cF_val, cF_val, ← Int.mul_emod]
theorem cF_self : cF p (p : Int) = 0 := by
  apply Fin.ext
  apply Int.ofNat.inj
  show (((cF p p).val : Nat) : Int) = (((0 : Fin p).val : Nat) : Int)
  rw [cF_val, Int.emod_self]; simp
theorem cF_zero : cF p 0 = 0 := by
  apply Fin.ext
  apply Int.ofNat.inj
  show (((cF p 0).val : Nat) : Int) = (((0 : Fin p).val : Nat) : Int)
  rw [cF_val]; simp
theorem cF_sub (x y : Int) : cF p (x - y) = cF p x - cF p y := by
  have h := cF_add (p := p) (x - y) y
  rw [Int.sub_add_cancel] at h
  rw [h]; exact cs1 _ _
where cs1 (a b : Fin p) : a = a + b - b := by grind
theorem cF_tmod {x : Int} (h : 0 ≤ x) : cF p (Int.tmod x (p : Int)) = cF p x := by
  rw [Int.tmod_eq_emod_of_nonneg h]
  exact cF_ext (Int.emod_emod_of_dvd x (Int.dvd_refl _))
theorem tmod_bd {x : Int} (h : 0 ≤ x) : 0 ≤ Int.tmod x (p : Int) ∧ Int.tmod x (p : Int) < p := by
  rw [Int.tmod_eq_emod_of_nonneg h]
  exact ⟨Int.emod_nonneg x (Int.ne_of_gt pposZ), Int.emod_lt_of_pos x pposZ⟩
theorem cF_eq {x y : Int} (hx : 0 ≤ x ∧ x < p) (hy : 0 ≤ y ∧ y < p) : cF p x = cF p y ↔ x = y := by
  refine ⟨fun h => ?_, fun h => by rw [h]⟩
  have h1 := cF_val (p := p) x
  have h2 := cF_val (p := p) y
  rw [h, h2, Int.emod_eq_of_lt hx.1 hx.2, Int.emod_eq_of_lt hy.1 hy.2] at h1
  exact h1.symm
theorem cF_eq0 {x : Int} (hx : 0 ≤ x ∧ x < p) : cF p x = 0 ↔ x = 0 := by
  rw [← cF_zero]; exact cF_eq hx ⟨Int.le_refl _, pposZ⟩
theorem cF_fin (a : Fin p) : cF p (a.val : Int) = a := by
  apply Fin.ext
  apply Int.ofNat.inj
  show (((cF p (a.val : Int)).val : Nat) : Int) = ((a.val : Nat) : Int)
  rw [cF_val, Int.emod_eq_of_lt (by omega) (by have := a.isLt; omega)]
theorem cF_one (h1 : 1 < p) : cF p 1 = 1 := by
  apply Fin.ext
  apply Int.ofNat.inj
  show (((cF p 1).val : Nat) : Int) = (((1 : Fin p).val : Nat) : Int)
  have e : ((1 : Fin p).val) = 1 := by show 1 % p = 1; exact Nat.mod_eq_of_lt h1
  rw [cF_val, e, Int.emod_eq_of_lt (by omega) (by omega)]; rfl

/-! ### matrices as lists of rows -/
def ent (X : List (List Int)) (i j : Nat) : Int := (X.getD i []).getD j 0
structure MOk (p r n : Nat) (X : List (List Int)) : Prop where
  len : X.length = r
  row : ∀ i, i < r → (X.getD i []).length = n
  bd : ∀ i, i < r → ∀ j, j < n → 0 ≤ ent X i j ∧ ent X i j < p
def MF (p : Nat) [NeZero p] (X : List (List Int)) (i j : Nat) : Fin p := cF p (ent X i j)
theorem ent_set {X : List (List Int)} {i j : Nat} {v : Int} (hi : i < X.length) (hj : j < (X.getD i []).length) (a b : Nat) : ent (X.set i ((X.getD i []).set j v)) a b = if a = i ∧ b = j then v else ent X a b := by
  unfold ent
  have e : ∀ (l : List (List Int)) (k : Nat), l.getD k [] = (l[k]?).getD [] := fun l k => List.getD_eq_getElem?_getD ..
  rw [e (X.set i _) a, List.getElem?_set]
  by_cases c : i = a
  · subst c
    rw [if_pos rfl, if_pos hi]
    simp only [Option.getD_some, true_and]
    rw [List.getD_eq_getElem?_getD, List.getElem?_set]
    by_cases d : j = b
    · subst d; rw [if_pos rfl, if_pos hj, if_pos rfl]; rfl
    · rw [if_neg d, if_neg (Ne.symm d), ← List.getD_eq_getElem?_getD]
  · rw [if_neg c, if_neg (fun h => c h.1.symm), ← e]
theorem len_set2 (X : List (List Int)) (i j : Nat) (v : Int) (m : Nat) : ((X.set i ((X.getD i []).set j v)).getD m []).length = (X.getD m []).length := by
  rw [List.getD_eq_getElem?_getD, List.getElem?_set]
  split
  · rename_i e
    subst e
    split
    · simp
    · rename_i h; rw [List.getD_eq_getElem?_getD, List.getElem?_eq_none (by omega)]
  · rw [← List.getD_eq_getElem?_getD]
theorem MOk.put {r n : Nat} {X : List (List Int)} (h : MOk p r n X) {i j : Nat} {v : Int} (hi : i < r) (hj : j < n) (hv : 0 ≤ v ∧ v < p) : MOk p r n (X.set i ((X.getD i []).set j v)) := by
  refine ⟨by rw [List.length_set]; exact h.len, fun a ha => ?_, fun a ha b hb => ?_⟩
  · rw [len_set2]; exact h.row a ha
  · rw [ent_set (by rw [h.len]; exact hi) (by rw [h.row i hi]; exact hj)]
    split
    · exact hv
    · exact h.bd a ha b hb
theorem MF_put {r n : Nat} {X : List (List Int)} (h : MOk p r n X) {i j : Nat} {v : Int} (hi : i < r) (hj : j < n) (a b : Nat) : MF p (X.set i ((X.getD i []).set j v)) a b = if a = i ∧ b = j then cF p v else MF p X a b := by
  unfold MF
  rw [ent_set (by rw [h.len]; exact hi) (by rw [h.row i hi]; exact hj)]
  split <;> rfl
def sw (a b i : Nat) : Nat := if i = b then a else if i = a then b else i
theorem sw_lt {a b i r : Nat} (ha : a < r) (hb : b < r) (hi : i < r) : sw a b i < r := by unfold sw; split <;> (try split) <;> omega
theorem sw_sw (a b i : Nat) : sw a b (sw a b i) = i := by unfold sw; split <;> (try split) <;> (try split) <;> (try split) <;> omega
theorem getD_swap {X : List (List Int)} {a b : Nat} (ha : a < X.length) (hb : b < X.length) (i : Nat) : ((X.set a (X.getD b [])).set b (X.getD a [])).getD i [] = X.getD (sw a b i) [] := by
  have e : ∀ (l : List (List Int)) (k : Nat), l.getD k [] = (l[k]?).getD [] := fun l k => List.getD_eq_getElem?_getD ..
  rw [e (List.set _ _ _) i, List.getElem?_set, List.length_set, List.getElem?_set]
  unfold sw
  by_cases c : b = i
  · subst c; rw [if_pos rfl, if_pos hb, if_pos rfl]; rfl
  · rw [if_neg c, if_neg (Ne.symm c)]
    by_cases d : a = i
    · subst d; rw [if_pos rfl, if_pos ha, if_pos rfl]; rfl
    · rw [if_neg d, if_neg (Ne.symm d), ← e]
theorem MOk.swap {r n : Nat} {X : List (List Int)} (h : MOk p r n X) {a b : Nat} (ha : a < r) (hb : b < r) : MOk p r n ((X.set a (X.getD b [])).set b (X.getD a [])) := by
  have hla : a < X.length := by rw [h.len]; exact ha
  have hlb : b < X.length := by rw [h.len]; exact hb
  refine ⟨by simp [h.len], fun i hi => ?_, fun i hi j hj => ?_⟩
  · rw [getD_swap hla hlb]; exact h.row _ (sw_lt ha hb hi)
  · unfold ent; rw [getD_swap hla hlb]; exact h.bd _ (sw_lt ha hb hi) j hj
theorem MF_swap {r n : Nat} {X : List (List Int)} (h : MOk p r n X) {a b : Nat} (ha : a < r) (hb : b < r) (i j : Nat) : MF p ((X.set a (X.getD b [])).set b (X.getD a [])) i j = MF p X (sw a b i) j := by
  unfold MF ent
  rw [getD_swap (by rw [h.len]; exact ha) (by rw [h.len]; exact hb)]

/-! ### what is nought with all rows -/
def Ker (r n : Nat) (M : Nat → Nat → Fin p) (v : Nat → Fin p) : Prop := ∀ i, i < r → Sm n (fun j => M i j * v j) = 0
theorem ker_sw {r n a b : Nat} {M M' : Nat → Nat → Fin p} (ha : a < r) (hb : b < r) (h : ∀ i, i < r → ∀ j, j < n → M' i j = M (sw a b i) j) (v : Nat → Fin p) : Ker r n M' v ↔ Ker r n M v := by
  constructor
  · intro hk i hi
    have := hk _ (sw_lt ha hb hi)
    rw [Sm_congr fun j hj => by rw [h _ (sw_lt ha hb hi) j hj, sw_sw]] at this
    exact this
  · intro hk i hi
    have := hk _ (sw_lt ha hb hi)
    rw [Sm_congr fun j hj => by rw [h i hi j hj]]
    exact this
/-- Multiples of one row taken from others. -/
theorem ker_sub {r n k : Nat} {M M' : Nat → Nat → Fin p} {t : Nat → Fin p} (hk : k < r) (ht : t k = 0) (h : ∀ i, i < r → ∀ j, j < n → M' i j = M i j - t i * M k j) (v : Nat → Fin p) : Ker r n M' v ↔ Ker r n M v := by
  have e : ∀ i, i < r → Sm n (fun j => M' i j * v j) = Sm n (fun j => M i j * v j) - t i * Sm n (fun j => M k j * v j) := fun i hi => by
    rw [← Sm_mul, ← Sm_sub]
    exact Sm_congr fun j hj => by rw [h i hi j hj]; exact e1 _ _ _ _
  constructor
  · intro hv
    have hk0 : Sm n (fun j => M k j * v j) = 0 := by
      have := e k hk
      rw [ht, hv k hk] at this
      exact e2 this
    intro i hi
    have := e i hi
    rw [hk0, hv i hi] at this
    exact e3 this
  · intro hv i hi
    rw [e i hi, hv i hi, hv k hk]; exact e4 _
where
  e1 (a b c d : Fin p) : (a - b * c) * d = a * d - b * (c * d) := by grind
  e2 {a : Fin p} (h : 0 = a - 0 * a) : a = 0 := by grind
  e3 {a b : Fin p} (h : 0 = a - b * 0) : a = 0 := by grind
  e4 (a : Fin p) : 0 - a * 0 = 0 := by grind
/-- With all on and below the diagonal as it should be nothing else is nought with all rows. -/
theorem ker_ut (hp : Fld p) {r n : Nat} {M : Nat → Nat → Fin p} (hr : n ≤ r) (hd : ∀ i, i < n → M i i ≠ 0) (hu : ∀ i, i < n → ∀ j, j < i → M i j = 0) {v : Nat → Fin p} (hv : Ker r n M v) : ∀ j, j < n → v j = 0 := by
  have key : ∀ d j, j < n → n - j ≤ d → v j = 0 := by
    intro d
    induction d with
    | zero => intro j hj h; omega
    | succ d ih =>
      intro j hj h
      have h1 := hv j (by omega)
      rw [Sm_one (k := j) hj fun i hi hne => ?_] at h1
      · exact hp.zero_of (hd j hj) h1
      · rcases Nat.lt_or_ge i j with c | c
        · rw [hu j hj i c]; exact z1 _
        · rw [ih i hi (by omega)]; exact z2 _
  exact fun j hj => key n j hj (by omega)
where
  z1 (a : Fin p) : 0 * a = 0 := by grind
  z2 (a : Fin p) : a * 0 = 0 := by grind
end
end Go.SH

set_option linter.unusedSimpArgs false
set_option linter.unusedVariables false
set_option linter.unusedSectionVars false
namespace Go.SH
open Go Go.AX
section
variable {p : Nat} [NeZero p]

structure El (r n : Nat) (M0 M : Nat → Nat → Fin p) (rk c : Nat) : Prop where
  rkc : rk ≤ c
  rkr : rk ≤ r
  cn : c ≤ n
  low : ∀ i, rk ≤ i → i < r → ∀ j, j < c → M i j = 0
  ker : ∀ v, Ker r n M v ↔ Ker r n M0 v
  two : (rk = c ∧ (∀ i, i < c → M i i ≠ 0) ∧ ∀ i, i < c → ∀ j, j < i → M i j = 0) ∨ (rk < c ∧ ∃ v, Ker r n M0 v ∧ ∃ j, j < n ∧ v j ≠ 0)
variable {r n rk c : Nat} {M0 M : Nat → Nat → Fin p}
theorem El.start (r n : Nat) (M0 : Nat → Nat → Fin p) : El r n M0 M0 0 0 :=
  ⟨Nat.le_refl _, Nat.zero_le _, Nat.zero_le _, fun i _ _ j hj => by omega, fun v => Iff.rfl, .inl ⟨rfl, fun i hi => by omega, fun i hi => by omega⟩⟩
theorem z0 (a : Fin p) : 0 * a = 0 := by grind
theorem z1 (a : Fin p) : a * 0 = 0 := by grind
theorem mulc (a b : Fin p) : a * b = b * a := by grind
/-- More columns than rows: something else is nought with all rows. -/
theorem ker_ex (hp : Fld p) (h : r < n) (M : Nat → Nat → Fin p) : ∃ v, Ker r n M v ∧ ∃ j, j < n ∧ v j ≠ 0 := by
  obtain ⟨v, ⟨j, hj, hne⟩, hv⟩ := nontriv hp r n (fun i j => M j i) h
  refine ⟨v, fun i hi => ?_, j, hj, hne⟩
  rw [← hv i hi]
  exact Sm_congr fun k _ => mulc _ _
theorem El.skip (hp : Fld p) (h : El r n M0 M rk c) (hc : c < n) (hz : ∀ i, rk ≤ i → i < r → M i c = 0) : El r n M0 M rk (c + 1) := by
  have hlow : ∀ i, rk ≤ i → i < r → ∀ j, j < c + 1 → M i j = 0 := fun i h1 h2 j hj => by
    rcases Nat.lt_succ_iff_lt_or_eq.1 hj with q | q
    · exact h.low i h1 h2 j q
    · subst q; exact hz i h1 h2
  refine ⟨by have := h.rkc; omega, h.rkr, by omega, hlow, h.ker, .inr ⟨by have := h.rkc; omega, ?_⟩⟩
  rcases h.two with ⟨e, _, _⟩ | ⟨_, q⟩
  · obtain ⟨v, ⟨j, hj, hne⟩, hv⟩ := nontriv hp c (c + 1) (fun i j => M j i) (by omega)
    refine ⟨fun j => if j < c + 1 then v j else 0, (h.ker _).1 fun i hi => ?_, j, by omega, by simpa [hj] using hne⟩
    rcases Nat.lt_or_ge i c with q | q
    · have e2 : n = (c + 1) + (n - (c + 1)) := by omega
      rw [e2, Sm_app, Sm_zero (n := n - (c + 1)) fun k _ => ?_, Sm_congr (g := fun k => v k * M i k) fun k hk => ?_, hv i q]
      · simp
      · simp only [if_pos hk]; exact mulc _ _
      · simp only [if_neg (show ¬ c + 1 + k < c + 1 by omega)]; exact z1 _
    · refine Sm_zero fun k hk => ?_
      by_cases ck : k < c + 1
      · rw [hlow i (by omega) hi k ck]; exact z0 _
      · simp only [if_neg ck]; exact z1 _
  · exact q
theorem El.piv (h : El r n M0 M rk c) (hc : c < n) {k : Nat} (hk : rk ≤ k) (hkr : k < r) {M1 M2 : Nat → Nat → Fin p} {t : Nat → Fin p} (h1 : ∀ i, i < r → ∀ j, j < n → M1 i j = M (sw rk k i) j) (hne : M1 rk c ≠ 0)
    (ht : ∀ i, i ≤ rk → t i = 0) (h2 : ∀ i, i < r → ∀ j, j < n → M2 i j = M1 i j - t i * M1 rk j) (hz : ∀ i, rk < i → i < r → M2 i c = 0) : El r n M0 M2 (rk + 1) (c + 1) := by
  have hrk : rk < r := by omega
  have swhi : ∀ i, rk ≤ i → rk ≤ sw rk k i := fun i hi => by unfold sw; split <;> (try split) <;> omega
  have swlo : ∀ i, i < rk → sw rk k i = i := fun i hi => by unfold sw; split <;> (try split) <;> omega
  have low1 : ∀ i, rk ≤ i → i < r → ∀ j, j < c → M1 i j = 0 := fun i a b j hj => by
    rw [h1 i b j (by omega)]; exact h.low _ (swhi i a) (sw_lt hrk hkr b) j hj
  refine ⟨by have := h.rkc; omega, by omega, by omega, fun i a b j hj => ?_, fun v => ?_, ?_⟩
  · rcases Nat.lt_succ_iff_lt_or_eq.1 hj with q | q
    · rw [h2 i b j (by omega), low1 i (by omega) b j q, low1 rk (Nat.le_refl _) hrk j q]; exact e1 _
    · subst q; exact hz i (by omega) b
  · rw [ker_sub hrk (ht rk (Nat.le_refl _)) h2, ker_sw hrk hkr h1]; exact h.ker v
  · rcases h.two with ⟨e, d1, d2⟩ | ⟨q1, q2⟩
    · have same : ∀ i, i < rk → ∀ j, j < n → M2 i j = M i j := fun i hi j hj => by
        rw [h2 i (by omega) j hj, ht i (by omega), h1 i (by omega) j hj, swlo i hi]; exact e2 _ _
      have top : ∀ j, j < n → M2 rk j = M1 rk j := fun j hj => by rw [h2 rk hrk j hj, ht rk (Nat.le_refl _)]; exact e2 _ _
      refine .inl ⟨by omega, fun i hi => ?_, fun i hi j hj => ?_⟩
      · rcases Nat.lt_succ_iff_lt_or_eq.1 hi with q | q
        · rw [same i (by omega) i (by omega)]; exact d1 i q
        · have a : i = rk := by omega
          have g : M2 i i = M2 rk c := by rw [← a, ← q]
          rw [g, top c hc]; exact hne
      · rcases Nat.lt_succ_iff_lt_or_eq.1 hi with q | q
        · rw [same i (by omega) j (by omega)]; exact d2 i q j hj
        · have a : i = rk := by omega
          rw [a, top j (by omega)]; exact low1 rk (Nat.le_refl _) hrk j (by omega)
    · exact .inr ⟨by omega, q2⟩
where
  e1 (a : Fin p) : 0 - a * 0 = 0 := by grind
  e2 (a b : Fin p) : a - 0 * b = a := by grind
theorem El.done (hp : Fld p) (h : El r n M0 M rk c) (he : c = n ∨ rk = r) : rk = n ↔ ∀ v, Ker r n M0 v → ∀ j, j < n → v j = 0 := by
  have h1 := h.rkc
  have h2 := h.cn
  have h3 := h.rkr
  constructor
  · intro e v hv
    rcases h.two with ⟨e1, d1, d2⟩ | ⟨q, _⟩
    · have ec : c = n := by omega
      subst ec
      exact ker_ut hp (by omega) d1 d2 ((h.ker v).2 hv)
    · omega
  · intro hv
    rcases h.two with ⟨e1, d1, d2⟩ | ⟨_, v, v1, j, v2, v3⟩
    · rcases Nat.lt_or_ge rk n with q | q
      · obtain ⟨v, v1, j, v2, v3⟩ := ker_ex hp (show r < n by omega) M0
        exact absurd (hv v v1 j v2) v3
      · omega
    · exact absurd (hv v v1 j v2) v3
end
end Go.SH

set_option linter.unusedSimpArgs false
set_option linter.unusedVariables false
set_option linter.unusedSectionVars false
namespace Go.SH
open Go Go.AX

/-- The elements of a set below m, rising. -/
def elm (m s : Nat) : List Nat := (List.range m).filter fun i => s.testBit i
theorem elm_succ (m s : Nat) : elm (m + 1) s = if s.testBit m = true then elm m s ++ [m] else elm m s := by
  unfold elm
  rw [List.range_succ, List.filter_append]
  by_cases h : s.testBit m = true
  · simp [h]
  · simp [h]
theorem elm_len (m s : Nat) : (elm m s).length = cnt m s := by
  induction m with
  | zero => rfl
  | succ m ih =>
    rw [elm_succ, cnt]
    by_cases h : s.testBit m = true
    · rw [if_pos h, if_pos h, List.length_append, ih]; rfl
    · rw [if_neg h, if_neg h, ih]; rfl
theorem elm_els {m s : Nat} (hm : m ≤ 8) (hs : s < 2 ^ m) : elm m s = els s := by
  unfold elm els
  have : ∀ k, (List.range (m + k)).filter (fun i => s.testBit i) = (List.range m).filter (fun i => s.testBit i) := fun k => by
    induction k with
    | zero => rfl
    | succ k ih =>
      rw [← Nat.add_assoc, List.range_succ, List.filter_append, ih]
      have : s.testBit (m + k) = false := Nat.testBit_lt_two_pow (Nat.lt_of_lt_of_le hs (Nat.pow_le_pow_right (by omega) (by omega)))
      simp [this]
  have h := this (8 - m)
  rw [show m + (8 - m) = 8 by omega] at h
  exact h.symm
section
variable {p : Nat} [NeZero p]
/-- A sum over a set's elements. -/
theorem Sm_elm (s : Nat) (f : Nat → Fin p) : ∀ m, Sm (cnt m s) (fun k => f ((elm m s).getD k 0)) = Sm m (fun j => if s.testBit j = true then f j else 0)
  | 0 => rfl
  | m + 1 => by
    rw [Sm, ← Sm_elm s f m, cnt, elm_succ]
    by_cases h : s.testBit m = true
    · simp only [if_pos h]
      rw [Sm]
      have e1 : Sm (cnt m s) (fun k => f ((elm m s ++ [m]).getD k 0)) = Sm (cnt m s) (fun k => f ((elm m s).getD k 0)) := Sm_congr fun k hk => by
        rw [List.getD_eq_getElem?_getD, List.getElem?_append_left (by rw [elm_len]; exact hk), ← List.getD_eq_getElem?_getD]
      have e2 : (elm m s ++ [m]).getD (cnt m s) 0 = m := by
        rw [List.getD_eq_getElem?_getD, List.getElem?_append_right (by rw [elm_len]; exact Nat.le_refl _), elm_len, Nat.sub_self]; rfl
      rw [e1, e2]
    · simp only [if_neg h, Nat.add_zero]
      grind
theorem mul_bd7 {a b : Int} (h1 : 0 ≤ a) (h2 : a ≤ 7) (h3 : 0 ≤ b) (h4 : b ≤ 7) : 0 ≤ a * b ∧ a * b ≤ 49 := by
  refine ⟨Int.mul_nonneg h1 h3, ?_⟩
  have := Int.mul_le_mul h2 h4 h3 (by omega : (0 : Int) ≤ 7)
  omega
/-- What is one when multiplied. -/
theorem inverse_spec (hp : Fld p) (h7 : p ≤ 7) {a : Int} (ha : 0 ≤ a ∧ a < p) : Gets (kinds_inverse a p) (fun f => (0 ≤ f ∧ f < p) ∧ (cF p a ≠ 0 → cF p f * cF p a = 1)) := by
  have hp0 : 0 < p := Nat.pos_of_ne_zero (NeZero.ne p)
  have hp1 : 1 < p := by
    rcases Nat.lt_or_ge 1 p with c | c
    · exact c
    · exfalso
      have e : p = 1 := by omega
      subst e
      exact hp.one (by apply Fin.ext; omega)
  have one : ∀ b : Nat, b < p → (Int.tmod (a * b) p = 1 ↔ cF p (b : Int) * cF p a = 1) := fun b hb => by
    have hm := mul_bd7 ha.1 (by omega) (show (0 : Int) ≤ b by omega) (by omega)
    have e : cF p (Int.tmod (a * b) p) = cF p (b : Int) * cF p a := by
      rw [cF_tmod hm.1, cF_mul]; exact mulc _ _
    rw [← e, ← cF_one hp1, cF_eq (tmod_bd hm.1) ⟨by omega, by omega⟩]
  unfold kinds_inverse
  refine gBind (R := fun z : Unit ⊕ Int => match z with | .inl _ => cF p a = 0 | .inr f => (0 ≤ f ∧ f < p) ∧ (cF p a ≠ 0 → cF p f * cF p a = 1)) (gFor p (fun k (v : Int) => v = (k : Int) ∧ ∀ b : Nat, b < k → Int.tmod (a * b) p ≠ 1) (Nat.zero_le _) ⟨rfl, fun b hb => by omega⟩ ?_) ?_
  · rintro k v hk ⟨rfl, hb⟩
    refine gIte (fun h1 => ?_) fun h1 => ?_
    · have hm := mul_bd7 ha.1 (by omega) (show (0 : Int) ≤ k by omega) (by omega)
      refine gChk ⟨by omega, by omega⟩ (gIte (fun h2 => ?_) fun h2 => ?_)
      · exact gSome ⟨by omega, fun _ => (one k (by omega)).1 h2⟩
      · refine gSome ⟨by omega, by simp, fun b hb' => ?_⟩
        rcases Nat.lt_succ_iff_lt_or_eq.1 hb' with c | c
        · exact hb b c
        · subst c; exact h2
    · refine gSome ?_
      refine Classical.byContradiction fun hne => ?_
      obtain ⟨b, hb2⟩ := hp.inv _ hne
      refine hb b.val (by have := b.isLt; omega) ((one b.val b.isLt).2 ?_)
      rw [cF_fin, mulc]; exact hb2
  · rintro (_ | f) hz
    · exact gSome ⟨⟨by omega, by omega⟩, fun h => absurd hz h⟩
    · exact gSome hz

/-- The first row from rk on that is not nought in column c. -/
theorem search_spec {r n c rk : Nat} {Y : List (List Int)} (hY : MOk p r n Y) (hc : c < n) (hrk : rk ≤ r) :
    ∀ f : Int → Option (Int ⊕ Int), (∀ v : Int, f v = (chk (((v < (Y.length : Int)) → (0 ≤ v ∧ v < Y.length)) ∧ ((v < (Y.length : Int)) → (0 ≤ (c : Int) ∧ (c : Int) < ((Y.getD v.toNat []).length)))) <|
      if (v < (Y.length : Int) ∧ (Y.getD v.toNat []).getD (c : Int).toNat 0 = 0) then chk ((-9223372036854775808 ≤ (v + 1 : Int) ∧ (v + 1 : Int) ≤ 9223372036854775807)) <| some (.inl (v + 1)) else some (.inr v))) → r ≤ 6 →
    Gets (loopM f (rk : Int)) (fun v => ∃ k : Nat, v = (k : Int) ∧ rk ≤ k ∧ k ≤ r ∧ (∀ i, rk ≤ i → i < k → MF p Y i c = 0) ∧ (k < r → MF p Y k c ≠ 0)) := by
  intro f hf hr6
  have hl := hY.len
  refine gFor r (fun k (v : Int) => v = (k : Int) ∧ rk ≤ k ∧ ∀ i, rk ≤ i → i < k → MF p Y i c = 0) hrk ⟨rfl, Nat.le_refl _, fun i h1 h2 => by omega⟩ ?_
  rintro k v hk ⟨rfl, h1, h2⟩
  rw [hf]
  have hrow : k < r → (Y.getD k []).length = n := fun h => hY.row k h
  refine gChk ⟨fun h => ⟨by omega, h⟩, fun h => ⟨by omega, ?_⟩⟩ ?_
  · rw [toNat_nat, hrow (by omega)]; omega
  refine gIte (fun h3 => ?_) fun h3 => ?_
  · have hkr : k < r := by omega
    refine gChk ⟨by omega, by omega⟩ (gSome ⟨hkr, by simp, by omega, fun i a b => ?_⟩)
    rcases Nat.lt_succ_iff_lt_or_eq.1 b with q | q
    · exact h2 i a q
    · subst q
      refine (cF_eq0 (hY.bd i hkr c hc)).2 ?_
      exact h3.2
  · refine gSome ⟨k, rfl, h1, hk, h2, fun hkr => ?_⟩
    intro hz
    exact h3 ⟨by omega, (cF_eq0 (hY.bd k hkr c hc)).1 hz⟩
/-- A row's numbers from column c on, without a multiple of another row's. -/
theorem rowop_spec {r n c rk i : Nat} {Y : List (List Int)} {T : Int} (h7 : p ≤ 7) (hn8 : n ≤ 8) (hr6 : r ≤ 6) (hY : MOk p r n Y) (hc : c ≤ n) (hrk : rk < r) (hi : i < r) (hne : i ≠ rk) (hT : 0 ≤ T ∧ T < p) :
    ∀ f : List (List Int) × Int → Option ((List (List Int) × Int) ⊕ List (List Int)), (∀ v v16, f (v, v16) = (chk ((0 ≤ (i : Int) ∧ (i : Int) < v.length)) <|
      if v16 < ((v.getD (i : Int).toNat []).length : Int) then
      chk ((0 ≤ (i : Int) ∧ (i : Int) < v.length) ∧ (0 ≤ v16 ∧ v16 < ((v.getD (i : Int).toNat []).length)) ∧ (-9223372036854775808 ≤ ((p : Int) - T : Int) ∧ ((p : Int) - T : Int) ≤ 9223372036854775807) ∧ (0 ≤ (rk : Int) ∧ (rk : Int) < v.length) ∧ (0 ≤ v16 ∧ v16 < ((v.getD (rk : Int).toNat []).length)) ∧ (-9223372036854775808 ≤ (((p : Int) - T) * ((v.getD (rk : Int).toNat []).getD v16.toNat 0) : Int) ∧ (((p : Int) - T) * ((v.getD (rk : Int).toNat []).getD v16.toNat 0) : Int) ≤ 9223372036854775807) ∧ (-9223372036854775808 ≤ (((v.getD (i : Int).toNat []).getD v16.toNat 0) + (((p : Int) - T) * ((v.getD (rk : Int).toNat []).getD v16.toNat 0)) : Int) ∧ (((v.getD (i : Int).toNat []).getD v16.toNat 0) + (((p : Int) - T) * ((v.getD (rk : Int).toNat []).getD v16.toNat 0)) : Int) ≤ 9223372036854775807) ∧ (p : Int) ≠ 0) <|
      chk ((-9223372036854775808 ≤ (v16 + 1 : Int) ∧ (v16 + 1 : Int) ≤ 9223372036854775807)) <|
      some (.inl (v.set (i : Int).toNat ((v.getD (i : Int).toNat []).set v16.toNat (Int.tmod (((v.getD (i : Int).toNat []).getD v16.toNat 0) + (((p : Int) - T) * ((v.getD (rk : Int).toNat []).getD v16.toNat 0))) p)), v16 + 1))
      else some (.inr v))) →
    Gets (loopM f (Y, (c : Int))) (fun Z => MOk p r n Z ∧ ∀ a, a < r → ∀ b, b < n → MF p Z a b = if a = i ∧ c ≤ b then MF p Y a b - cF p T * MF p Y rk b else MF p Y a b) := by
  intro f hf
  refine gFor n (fun k (x : List (List Int) × Int) => x.2 = (k : Int) ∧ c ≤ k ∧ MOk p r n x.1 ∧ ∀ a, a < r → ∀ b, b < n → MF p x.1 a b = if a = i ∧ c ≤ b ∧ b < k then MF p Y a b - cF p T * MF p Y rk b else MF p Y a b) hc ⟨rfl, Nat.le_refl _, hY, fun a ha b hb => by rw [if_neg (by omega)]⟩ ?_
  rintro k ⟨v, _⟩ hk ⟨rfl, h1, h2, h3⟩
  dsimp only at h2 h3
  rw [hf]
  simp only [toNat_nat]
  have hl := h2.len
  have ei : ∀ j, (v.getD i []).getD j 0 = ent v i j := fun _ => rfl
  have er : ∀ j, (v.getD rk []).getD j 0 = ent v rk j := fun _ => rfl
  simp only [hl, h2.row i hi, h2.row rk hrk, ei, er]
  refine gChk ⟨by omega, by omega⟩ (gIte (fun h4 => ?_) fun h4 => ?_)
  · have hkn : k < n := by omega
    have bi := h2.bd i hi k hkn
    have br := h2.bd rk hrk k hkn
    have m1 := mul_bd7 (a := (p : Int) - T) (by omega) (by omega) br.1 (by omega)
    refine gChk ⟨⟨by omega, by omega⟩, ⟨by omega, by omega⟩, ⟨by omega, by omega⟩, ⟨by omega, by omega⟩, ⟨by omega, by omega⟩, ⟨by omega, by omega⟩, ⟨by omega, by omega⟩, by omega⟩ ?_
    have hpos : 0 ≤ ent v i k + ((p : Int) - T) * ent v rk k := by omega
    refine gChk ⟨by omega, by omega⟩ (gSome ⟨hkn, by simp, by omega, h2.put hi hkn (tmod_bd hpos), fun a ha b hb => ?_⟩)
    rw [MF_put h2 hi hkn]
    by_cases q : a = i ∧ b = k
    · obtain ⟨rfl, rfl⟩ := q
      rw [if_pos ⟨rfl, rfl⟩, if_pos ⟨rfl, h1, by omega⟩, cF_tmod hpos, cF_add, cF_mul, cF_sub, cF_self]
      have e1 : cF p (ent v a b) = MF p Y a b := by have := h3 a ha b hb; rw [if_neg (by omega)] at this; exact this
      have e2 : cF p (ent v rk b) = MF p Y rk b := by have := h3 rk hrk b hb; rw [if_neg (fun h => hne h.1.symm)] at this; exact this
      rw [e1, e2]; exact ro1 _ _ _
    · rw [if_neg q, h3 a ha b hb]
      by_cases q2 : a = i ∧ c ≤ b ∧ b < k
      · rw [if_pos q2, if_pos ⟨q2.1, q2.2.1, by omega⟩]
      · rw [if_neg q2, if_neg (fun h => by
          rcases Nat.lt_succ_iff_lt_or_eq.1 h.2.2 with d | d
          · exact q2 ⟨h.1, h.2.1, d⟩
          · exact q ⟨h.1, d⟩)]
  · refine gSome ⟨h2, fun a ha b hb => ?_⟩
    rw [h3 a ha b hb]
    by_cases q : a = i ∧ c ≤ b
    · rw [if_pos q, if_pos ⟨q.1, q.2, by omega⟩]
    · rw [if_neg q, if_neg (fun h => q ⟨h.1, h.2.1⟩)]
where
  ro1 (a b c : Fin p) : a + (0 - b) * c = a - b * c := by grind

/-- The columns of a set alone. -/
def cols (n s : Nat) (X : List (List Int)) (r : Nat) : List (List Int) := (List.range r).map fun i => (elm n s).map fun j => ent X i j
theorem cols_get {n s r : Nat} {X : List (List Int)} {i : Nat} (hi : i < r) : (cols n s X r).getD i [] = (elm n s).map fun j => ent X i j := by
  unfold cols
  rw [List.getD_eq_getElem?_getD, List.getElem?_map, List.getElem?_range hi]; rfl
theorem cols_ent {n s r : Nat} {X : List (List Int)} {i k : Nat} (hi : i < r) (hk : k < cnt n s) : ent (cols n s X r) i k = ent X i ((elm n s).getD k 0) := by
  unfold ent
  rw [cols_get hi]
  have hl : k < (elm n s).length := by rw [elm_len]; exact hk
  have e : (elm n s).getD k 0 = (elm n s)[k] := by rw [List.getD_eq_getElem?_getD, List.getElem?_eq_getElem hl]; rfl
  rw [e, List.getD_eq_getElem?_getD, List.getElem?_map, List.getElem?_eq_getElem hl]; rfl
theorem elm_lt {n s k : Nat} (hk : k < cnt n s) : (elm n s).getD k 0 < n := by
  have hl : k < (elm n s).length := by rw [elm_len]; exact hk
  rw [List.getD_eq_getElem?_getD, List.getElem?_eq_getElem hl]
  have := List.getElem_mem hl
  unfold elm at this
  exact List.mem_range.1 (List.mem_filter.1 this).1
theorem cols_ok {n s r : Nat} {X : List (List Int)} (hX : MOk p r n X) : MOk p r (cnt n s) (cols n s X r) :=
  ⟨by simp [cols], fun i hi => by rw [cols_get hi, List.length_map, elm_len], fun i hi k hk => by rw [cols_ent hi hk]; exact hX.bd i hi _ (elm_lt hk)⟩
set_option maxRecDepth 4000 in
/-- Elimination as the code does it: as many rows as columns just if nothing but nought is nought with all rows. -/
theorem rankOf_elim (hp : Fld p) (h7 : p ≤ 7) {r n : Nat} {X : List (List Int)} (hX : MOk p r n X) (hr6 : r ≤ 6) (hn8 : n ≤ 8) {s : Nat} (hs : s < 2 ^ n) (m : Int) :
    Gets (kinds_rankOf p m X s) (fun k => k = ((cnt n s : Nat) : Int) ↔ ∀ v, Ker r (cnt n s) (MF p (cols n s X r)) v → ∀ j, j < cnt n s → v j = 0) := by
  have hl := hX.len
  have hs8 : s < 256 := Nat.lt_of_lt_of_le hs (pow_le8 hn8)
  have hsz : kinds_size (s : Int) = some ((cnt n s : Nat) : Int) := by rw [kinds_size_nat hs8, size_of_lt hs hn8]
  have hcn : cnt n s ≤ n := cnt_le n s
  unfold kinds_rankOf
  refine gBind (R := fun Y => Y = cols n s X r) (gFor r (fun k (x : List (List Int) × Int) => x.2 = (k : Int) ∧ x.1 = cols n s X k) (Nat.zero_le _) ⟨rfl, rfl⟩ ?_) ?_
  · rintro k ⟨_, _⟩ hk ⟨rfl, rfl⟩
    dsimp only
    refine gIte (fun h1 => ?_) fun h1 => gSome (by rw [show k = r by omega])
    have hkr : k < r := by omega
    refine gChk ⟨by omega, by omega⟩ (gBind (R := fun l => l = (elm n s).map fun j => ent X k j) (gFor n (fun j (x : List Int × Int) => x.2 = (j : Int) ∧ x.1 = (elm j s).map fun j => ent X k j) (Nat.zero_le _) ⟨rfl, rfl⟩ ?_) ?_)
    · rintro j ⟨_, _⟩ hj ⟨rfl, rfl⟩
      simp only [toNat_nat, hX.row k hkr]
      refine gIte (fun h2 => ?_) fun h2 => gSome (by rw [show j = n by omega])
      have hb := bit_nat s j
      rw [toNat_nat] at hb
      refine gChk ⟨by omega, by omega⟩ (gChk (by omega) ?_)
      rw [hb]
      have hle := cnt_le j s
      refine gIte (fun h3 => ?_) fun h3 => ?_
      · have hbit : s.testBit j = true := by
          by_cases q : s.testBit j = true
          · exact q
          · rw [if_neg q] at h3; omega
        have e : (elm (j + 1) s).map (fun j => ent X k j) = (elm j s).map (fun j => ent X k j) ++ [ent X k j] := by rw [elm_succ, if_pos hbit, List.map_append]; rfl
        refine gChk (by simp [elm_len]; omega) ?_
        clear h3 hb
        have hjn : j < n := by omega
        exact gChk ⟨by omega, by omega⟩ ⟨_, rfl, hjn, by simp, e.symm⟩
      · have hbit : ¬ s.testBit j = true := fun q => h3 (if_pos q)
        have e : (elm (j + 1) s).map (fun j => ent X k j) = (elm j s).map (fun j => ent X k j) := by rw [elm_succ, if_neg hbit]
        clear h3 hb
        have hjn : j < n := by omega
        exact gChk ⟨by omega, by omega⟩ ⟨_, rfl, hjn, by simp, e.symm⟩
    · rintro _ rfl
      refine gChk (by simp [cols]; omega) (gSome ⟨hkr, by simp, ?_⟩)
      unfold cols
      rw [List.range_succ, List.map_append]; rfl
  rintro _ rfl
  have hY0 := cols_ok (s := s) hX
  refine gBind (R := fun k => k = ((cnt n s : Nat) : Int) ↔ ∀ v, Ker r (cnt n s) (MF p (cols n s X r)) v → ∀ j, j < cnt n s → v j = 0) ?_ fun k hk => gSome hk
  refine gFor (cnt n s) (fun c (x : List (List Int) × Int × Int) => ∃ rk : Nat, x.2.1 = (rk : Int) ∧ x.2.2 = (c : Int) ∧ MOk p r (cnt n s) x.1 ∧ El r (cnt n s) (MF p (cols n s X r)) (MF p x.1) rk c) (Nat.zero_le _) ⟨0, rfl, rfl, hY0, El.start _ _ _⟩ ?_
  rintro c ⟨Y, _, _⟩ hc ⟨rk, rfl, rfl, hY, hE⟩
  dsimp only at hY hE
  refine gBindE hsz ?_
  have hlY := hY.len
  have hrkr := hE.rkr
  dsimp only
  refine gIte (fun h1 => ?_) fun h1 => ?_
  rotate_left
  · refine gSome ?_
    rw [← hE.done hp (by omega)]
    constructor <;> intro h <;> omega
  have hcn' : c < cnt n s := by omega
  refine gBind (search_spec hY hcn' hrkr _ (fun v => rfl) hr6) ?_
  rintro _ ⟨k, rfl, k1, k2, k3, k4⟩
  refine gIte (fun h2 => ?_) fun h2 => ?_
  · exact gChk ⟨by omega, by omega⟩ (gSome ⟨hcn', rk, rfl, by simp, hY, hE.skip hp hcn' fun i a b => k3 i a (by omega)⟩)
  have hkr : k < r := by omega
  have hrk' : rk < r := by omega
  simp only [toNat_nat]
  have hS := hY.swap hrk' hkr
  have hMS := MF_swap hY hrk' hkr
  obtain ⟨Y1, hY1⟩ : ∃ Y1, Y1 = (Y.set rk (Y.getD k [])).set k (Y.getD rk []) := ⟨_, rfl⟩
  rw [← hY1] at hS hMS ⊢
  have hl1 := hS.len
  have b1 := hS.bd rk hrk' c hcn'
  refine gChk ⟨by omega, by omega⟩ (gChk ⟨by omega, by omega⟩ (gChk ⟨by omega, by omega⟩ (gChk ⟨by omega, by omega⟩ (gChk ⟨⟨by omega, by omega⟩, by omega, by rw [hS.row rk hrk']; omega⟩ ?_))))
  have ee : (Y1.getD rk []).getD c 0 = ent Y1 rk c := rfl
  rw [ee]
  refine gBind (inverse_spec hp h7 b1) ?_
  rintro f ⟨hf1, hf2⟩
  have hne : MF p Y1 rk c ≠ 0 := by
    rw [hMS]
    have : sw rk k rk = k := by unfold sw; split <;> simp_all
    rw [this]; exact k4 hkr
  have hf3 := hf2 hne
  refine gChk ⟨by omega, by omega⟩ ?_
  refine gBind (R := fun Z => MOk p r (cnt n s) Z ∧ ∀ a, a < r → ∀ b, b < cnt n s → MF p Z a b = if rk < a then MF p Y1 a b - (MF p Y1 a c * cF p f) * MF p Y1 rk b else MF p Y1 a b) ?_ ?_
  · refine gFor r (fun i (x : List (List Int) × Int) => x.2 = (i : Int) ∧ rk < i ∧ MOk p r (cnt n s) x.1 ∧ ∀ a, a < r → ∀ b, b < cnt n s → MF p x.1 a b = if rk < a ∧ a < i then MF p Y1 a b - (MF p Y1 a c * cF p f) * MF p Y1 rk b else MF p Y1 a b) (k0 := rk + 1) (by omega) ⟨by simp, by omega, hS, fun a ha b hb => by rw [if_neg (by omega)]⟩ ?_
    rintro i ⟨Z, _⟩ hi ⟨rfl, i1, hZ, hZ2⟩
    dsimp only at hZ hZ2 ⊢
    have hlZ := hZ.len
    refine gIte (fun h3 => ?_) fun h3 => ?_
    rotate_left
    · refine gSome ⟨hZ, fun a ha b hb => ?_⟩
      rw [hZ2 a ha b hb]
      by_cases q : rk < a
      · rw [if_pos q, if_pos ⟨q, by omega⟩]
      · rw [if_neg q, if_neg (fun h => q h.1)]
    have hir : i < r := by omega
    have bz := hZ.bd i hir c hcn'
    have m1 := mul_bd7 bz.1 (by omega) hf1.1 (by omega)
    have ez : (Z.getD i []).getD c 0 = ent Z i c := rfl
    simp only [toNat_nat, ez]
    refine gChk ⟨⟨by omega, by omega⟩, ⟨by omega, by rw [hZ.row i hir]; omega⟩, ⟨by omega, by omega⟩, by omega⟩ ?_
    have ti : cF p (Int.tmod (ent Z i c * f) p) = MF p Y1 i c * cF p f := by
      rw [cF_tmod m1.1, cF_mul]
      have := hZ2 i hir c hcn'
      rw [if_neg (by omega)] at this
      exact congrArg (· * cF p f) this
    refine gBind (rowop_spec h7 (by omega) hr6 hZ (Nat.le_of_lt hcn') hrk' hir (by omega) (tmod_bd m1.1) _ (fun v w => by simp only [toNat_nat])) ?_
    rintro W ⟨hW, hW2⟩
    refine gChk ⟨by omega, by omega⟩ (gSome ⟨hir, by simp, by omega, hW, fun a ha b hb => ?_⟩)
    rw [hW2 a ha b hb, ti]
    by_cases q : a = i
    · subst q
      have za : MF p Z a b = MF p Y1 a b := by have := hZ2 a ha b hb; rw [if_neg (by omega)] at this; exact this
      have zr : MF p Z rk b = MF p Y1 rk b := by have := hZ2 rk hrk' b hb; rw [if_neg (by omega)] at this; exact this
      have R : ∀ x y : Fin p, (if rk < a ∧ a < a + 1 then x else y) = x := fun x y => if_pos ⟨i1, by omega⟩
      rw [R, za, zr]
      by_cases q2 : c ≤ b
      · rw [if_pos ⟨rfl, q2⟩]
      · rw [if_neg (fun h => q2 h.2)]
        have lowr : MF p Y1 rk b = 0 := by
          rw [hMS]
          refine hE.low _ ?_ (sw_lt hrk' hkr hrk') b (by omega)
          unfold sw; split <;> (try split) <;> omega
        rw [lowr]; exact ro2 _ _
    · rw [if_neg (fun h => q h.1), hZ2 a ha b hb]
      by_cases q2 : rk < a ∧ a < i
      · rw [if_pos q2, if_pos ⟨q2.1, by omega⟩]
      · rw [if_neg q2, if_neg (by omega)]
  · rintro Z ⟨hZ, hZ2⟩
    refine gChk ⟨by omega, by omega⟩ (gChk ⟨by omega, by omega⟩ (gSome ⟨hcn', rk + 1, by simp, by simp, hZ, ?_⟩))
    refine hE.piv hcn' k1 hkr (M1 := MF p Y1) (t := fun a => if rk < a then MF p Y1 a c * cF p f else 0) (fun i hi j hj => hMS i j) hne (fun i hi => if_neg (by omega)) (fun i hi j hj => ?_) fun i a b => ?_
    · rw [hZ2 i hi j hj]
      by_cases q : rk < i
      · simp only [if_pos q]
      · simp only [if_neg q]; exact ro3 _ _
    · rw [hZ2 i b c hcn', if_pos a]
      exact ro4 _ hf3
where
  ro2 (a b : Fin p) : a = a - b * 0 := by grind
  ro3 (a b : Fin p) : a = a - 0 * b := by grind
  ro4 (a : Fin p) {f b : Fin p} (h : f * b = 1) : a - a * f * b = 0 := by grind
end
end Go.SH

set_option linter.unusedSimpArgs false
set_option linter.unusedVariables false
set_option linter.unusedSectionVars false
namespace Go.SH
open Go Go.AX

/-- A matrix. -/
def CM (P C : Int) (X : List (List Int)) : Prop := (P = 2 ∨ P = 3 ∨ P = 5 ∨ P = 7) ∧ 0 ≤ C ∧ C ≤ 8 ∧ X.length ≤ 6 ∧ ∀ i, i < X.length → ((X.getD i []).length : Int) = C ∧ ∀ j, j < (X.getD i []).length → 0 ≤ ent X i j ∧ ent X i j < P
theorem CM.elim {P C : Int} {X : List (List Int)} (h : CM P C X) : ∃ (p n : Nat) (_ : NeZero p), P = p ∧ C = n ∧ n ≤ 8 ∧ p ≤ 7 ∧ Fld p ∧ X.length ≤ 6 ∧ MOk p X.length n X := by
  obtain ⟨h1, h2, h3, h4, h5⟩ := h
  obtain ⟨n, rfl⟩ : ∃ n : Nat, C = n := ⟨C.toNat, by omega⟩
  have ok : ∀ p : Nat, P = p → MOk p X.length n X := fun p hp => by
    subst hp
    exact ⟨rfl, fun i hi => by have := (h5 i hi).1; omega, fun i hi j hj => (h5 i hi).2 j (by have := (h5 i hi).1; omega)⟩
  rcases h1 with e | e | e | e <;> subst e
  · exact ⟨2, n, inferInstance, rfl, rfl, by omega, by omega, fld2, h4, ok 2 rfl⟩
  · exact ⟨3, n, inferInstance, rfl, rfl, by omega, by omega, fld3, h4, ok 3 rfl⟩
  · exact ⟨5, n, inferInstance, rfl, rfl, by omega, by omega, fld5, h4, ok 5 rfl⟩
  · exact ⟨7, n, inferInstance, rfl, rfl, by omega, by omega, fld7, h4, ok 7 rfl⟩
theorem CM.of {p n : Nat} (hp : p = 2 ∨ p = 3 ∨ p = 5 ∨ p = 7) (hn : n ≤ 8) {r : Nat} (hr : r ≤ 6) {X : List (List Int)} (hX : MOk p r n X) : CM p n X :=
  ⟨by omega, by omega, by omega, by rw [hX.len]; exact hr, fun i hi => by
    rw [hX.len] at hi
    have := hX.row i hi
    exact ⟨by omega, fun j hj => hX.bd i hi j (by omega)⟩⟩
theorem CheckMatrix_spec (P C : Int) (X : List (List Int)) : Gets (kinds_CheckMatrix P C X) (fun e => (e = 0 ∨ e = 1) ∧ (e = 0 ↔ CM P C X)) := by
  unfold kinds_CheckMatrix
  refine gIte (fun h1 => gSome ⟨.inr rfl, fun h => by omega, fun h => ?_⟩) fun h1 => ?_
  · obtain ⟨a, b, c, d, _⟩ := h
    omega
  have hb : (P = 2 ∨ P = 3 ∨ P = 5 ∨ P = 7) ∧ 0 ≤ C ∧ C ≤ 8 ∧ X.length ≤ 6 := ⟨by omega, by omega, by omega, by omega⟩
  refine gBind (R := fun z : Unit ⊕ Int => match z with | .inl _ => CM P C X | .inr e => e = 1 ∧ ¬ CM P C X) (gFor X.length (fun i (v : Int) => v = (i : Int) ∧ ∀ a, a < i → ((X.getD a []).length : Int) = C ∧ ∀ j, j < (X.getD a []).length → 0 ≤ ent X a j ∧ ent X a j < P) (Nat.zero_le _) ⟨rfl, fun a ha => by omega⟩ ?_) ?_
  · rintro i v hi ⟨rfl, h2⟩
    refine gIte (fun h3 => ?_) fun h3 => ?_
    rotate_left
    · have e : i = X.length := by omega
      subst e
      exact gSome ⟨hb.1, hb.2.1, hb.2.2.1, hb.2.2.2, h2⟩
    have hil : i < X.length := by omega
    refine gChk ⟨by omega, by omega⟩ ?_
    simp only [toNat_nat]
    refine gIte (fun h4 => gSome ⟨rfl, fun h => h4 (h.2.2.2.2 i hil).1⟩) fun h4 => ?_
    refine gBind (R := fun z : Unit ⊕ Int => match z with | .inl _ => ∀ j, j < (X.getD i []).length → 0 ≤ ent X i j ∧ ent X i j < P | .inr e => e = 1 ∧ ¬ CM P C X) (gFor (X.getD i []).length (fun j (v : Int) => v = (j : Int) ∧ ∀ b, b < j → 0 ≤ ent X i b ∧ ent X i b < P) (Nat.zero_le _) ⟨rfl, fun b hb => by omega⟩ ?_) ?_
    · rintro j v hj ⟨rfl, h5⟩
      refine gIte (fun h6 => ?_) fun h6 => ?_
      rotate_left
      · have e : j = (X.getD i []).length := by omega
        subst e
        exact gSome h5
      have hjl : j < (X.getD i []).length := by omega
      refine gChk ⟨by omega, by omega⟩ ?_
      simp only [toNat_nat]
      have ee : (X.getD i []).getD j 0 = ent X i j := rfl
      refine gIte (fun h7 => gSome ⟨rfl, fun h => ?_⟩) fun h7 => ?_
      · have := (h.2.2.2.2 i hil).2 j hjl
        rw [ee] at h7
        omega
      · rw [ee] at h7
        refine gSome ⟨hjl, by simp, fun b hb' => ?_⟩
        rcases Nat.lt_succ_iff_lt_or_eq.1 hb' with q | q
        · exact h5 b q
        · subst q; omega
    · rintro (_ | e) hz
      · refine gSome ⟨hil, by simp, fun a ha => ?_⟩
        rcases Nat.lt_succ_iff_lt_or_eq.1 ha with q | q
        · exact h2 a q
        · subst q; exact ⟨by omega, hz⟩
      · exact gSome hz
  · rintro (_ | e) hz
    · exact gSome ⟨.inl rfl, fun _ => hz, fun _ => rfl⟩
    · obtain ⟨rfl, hz⟩ := hz
      exact gSome ⟨.inr rfl, fun h => by omega, fun h => absurd h hz⟩

section
variable {p : Nat} [NeZero p]
/-- Columns that do not hang on one another. -/
def ColInd (p : Nat) [NeZero p] (r n : Nat) (X : List (List Int)) (s : Nat) : Prop := ∀ v : Nat → Fin p, Ker r n (MF p X) v → (∀ j, j < n → s.testBit j = false → v j = 0) → ∀ j, j < n → v j = 0
theorem cnt_up (s : Nat) {a b : Nat} (h : a ≤ b) : cnt a s ≤ cnt b s := by
  obtain ⟨d, rfl⟩ : ∃ d, b = a + d := ⟨b - a, by omega⟩
  clear h
  induction d with
  | zero => exact Nat.le_refl _
  | succ d ih => exact Nat.le_trans ih (Nat.le_add_right _ _)
theorem elm_at {s : Nat} : ∀ {n j : Nat}, j < n → s.testBit j = true → (elm n s).getD (cnt j s) 0 = j
  | 0, j, h, _ => by omega
  | n + 1, j, h, hb => by
    rw [elm_succ]
    rcases Nat.lt_succ_iff_lt_or_eq.1 h with q | q
    · have ih := elm_at (n := n) q hb
      have hl : cnt j s < (elm n s).length := by
        rw [elm_len]
        have h1 : cnt (j + 1) s ≤ cnt n s := cnt_up s (by omega)
        rw [cnt, if_pos hb] at h1
        omega
      by_cases c : s.testBit n = true
      · rw [if_pos c, List.getD_eq_getElem?_getD, List.getElem?_append_left hl, ← List.getD_eq_getElem?_getD]; exact ih
      · rw [if_neg c]; exact ih
    · subst q
      rw [if_pos hb, List.getD_eq_getElem?_getD, List.getElem?_append_right (by rw [elm_len]; exact Nat.le_refl _), elm_len, Nat.sub_self]; rfl
theorem elm_bit {n s k : Nat} (hk : k < cnt n s) : s.testBit ((elm n s).getD k 0) = true := by
  have hl : k < (elm n s).length := by rw [elm_len]; exact hk
  rw [List.getD_eq_getElem?_getD, List.getElem?_eq_getElem hl]
  have := List.getElem_mem hl
  unfold elm at this
  exact (List.mem_filter.1 this).2
theorem elm_idx {s : Nat} : ∀ {n k : Nat}, k < cnt n s → cnt ((elm n s).getD k 0) s = k
  | 0, k, h => by simp [cnt] at h
  | n + 1, k, h => by
    rw [elm_succ]
    rw [cnt] at h
    by_cases c : s.testBit n = true
    · rw [if_pos c] at h ⊢
      rcases Nat.lt_succ_iff_lt_or_eq.1 h with q | q
      · rw [List.getD_eq_getElem?_getD, List.getElem?_append_left (by rw [elm_len]; exact q), ← List.getD_eq_getElem?_getD]; exact elm_idx q
      · subst q
        rw [List.getD_eq_getElem?_getD, List.getElem?_append_right (by rw [elm_len]; exact Nat.le_refl _), elm_len, Nat.sub_self]; rfl
    · rw [if_neg c] at h ⊢
      exact elm_idx (by omega)
theorem colInd_iff {r n : Nat} {X : List (List Int)} {s : Nat} : (∀ v, Ker r (cnt n s) (MF p (cols n s X r)) v → ∀ j, j < cnt n s → v j = 0) ↔ ColInd p r n X s := by
  have sum : ∀ (i : Nat), i < r → ∀ (v w : Nat → Fin p), (∀ k, k < cnt n s → w k = v ((elm n s).getD k 0)) → (∀ j, j < n → s.testBit j = false → v j = 0) → Sm (cnt n s) (fun k => MF p (cols n s X r) i k * w k) = Sm n (fun j => MF p X i j * v j) := fun i hi v w hw hv => by
    rw [Sm_congr (g := fun k => MF p X i ((elm n s).getD k 0) * v ((elm n s).getD k 0)) (fun k hk => by rw [hw k hk]; unfold MF; rw [cols_ent hi hk]), Sm_elm s (fun j => MF p X i j * v j) n]
    refine Sm_congr fun j hj => ?_
    by_cases c : s.testBit j = true
    · rw [if_pos c]
    · rw [if_neg c, hv j hj (by simpa using c)]; exact (z1 _).symm
  constructor
  · intro h v hk hv j hj
    cases c : s.testBit j with
    | false => exact hv j hj c
    | true =>
      have := h (fun k => v ((elm n s).getD k 0)) (fun i hi => by rw [sum i hi v _ (fun _ _ => rfl) hv]; exact hk i hi) (cnt j s) (by
        have h2 : cnt (j + 1) s ≤ cnt n s := cnt_up s (by omega)
        rw [cnt, if_pos c] at h2
        omega)
      rw [← elm_at hj c]; exact this
  · intro h w hk k hk2
    have hv := h (fun j => if s.testBit j = true then w (cnt j s) else 0) (fun i hi => by
      rw [← sum i hi _ w (fun k hk => by simp only [elm_bit hk, if_true, elm_idx hk]) (fun j hj c => by simp [c])]
      exact hk i hi) (fun j hj c => by simp [c]) _ (elm_lt hk2)
    simpa only [elm_bit hk2, if_true, elm_idx hk2] using hv
theorem colInd0 {r n : Nat} {X : List (List Int)} : ColInd p r n X 0 := fun v _ h j hj => h j hj (by simp)
/-- The sets of columns that the code finds. -/
theorem Linear_spec (hp : Fld p) (h7 : p ≤ 7) {r n : Nat} {X : List (List Int)} (hX : MOk p r n X) (hr6 : r ≤ 6) (hn8 : n ≤ 8) (hc : CM p n X) : Gets (kinds_Linear p n X) (fun y => ∃ K, y = ((n : Int), cs K, 0) ∧ Fam n K ∧ ∀ s, s ∈ K ↔ s < 2 ^ n ∧ ColInd p r n X s ∧ ∀ t, t < 2 ^ n → ColInd p r n X t → cnt n t ≤ cnt n s) := by
  unfold kinds_Linear
  refine gBind (CheckMatrix_spec p n X) ?_
  rintro e ⟨h1, h2⟩
  rw [h2.2 hc]
  refine gIte (fun h => absurd rfl h) fun _ => ?_
  refine gBind (greatest_spec hn8 (p := fun s => ColInd p r n X s) (fun s hs => ?_) colInd0) ?_
  · unfold kinds_Linear_1
    refine gBind (rankOf_elim hp h7 hX hr6 hn8 hs n) fun k hk => ?_
    have hs8 : s < 256 := Nat.lt_of_lt_of_le hs (pow_le8 hn8)
    have hsz : kinds_size (s : Int) = some ((cnt n s : Nat) : Int) := by rw [kinds_size_nat hs8, size_of_lt hs hn8]
    refine gBindE hsz (gSome ?_)
    rw [decide_eq_true_eq, hk]
    exact colInd_iff
  · rintro y ⟨K, rfl, hF, hK⟩
    exact gSome ⟨K, rfl, hF, hK⟩
end
end Go.SH
