/-
  Matrices of integers as matrices modulo p: entries, what is nought with all rows, what elimination does. Conditions: none.
-/
import Derived.Test.YtdhbpoafkhojnaaLKa
import Derived.Test.YtdhbpoafkhojnaaLOc
set_option linter.unusedSimpArgs false
set_option linter.unusedVariables false
set_option linter.unusedSectionVars false
namespace Go.SH
open Go Go.AX

/-- An integer modulo p. -/
def cF (p : Nat) [NeZero p] (x : Int) : Fin p := ⟨(x % (p : Int)).toNat, by
  have hp : 0 < p := Nat.pos_of_ne_zero (NeZero.ne p)
  have h1 := Int.emod_nonneg x (show (p : Int) ≠ 0 by omega)
  have h2 := Int.emod_lt_of_pos x (show (0 : Int) < p by omega)
  omega⟩
section
variable {p : Nat} [NeZero p]
theorem pposZ : (0 : Int) < p := by have := Nat.pos_of_ne_zero (NeZero.ne p); omega
theorem cF_val (x : Int) : (((cF p x).val : Nat) : Int) = x % (p : Int) := Int.toNat_of_nonneg (Int.emod_nonneg x (Int.ne_of_gt pposZ))
theorem cF_ext {x y : Int} (h : x % (p : Int) = y % (p : Int)) : cF p x = cF p y := by
  apply Fin.ext
  have h1 := cF_val (p := p) x
  have h2 := cF_val (p := p) y
  omega
theorem cF_add (x y : Int) : cF p (x + y) = cF p x + cF p y := by
  apply Fin.ext
  apply Int.ofNat.inj
  show (((cF p (x + y)).val : Nat) : Int) = (((cF p x + cF p y).val : Nat) : Int)
  rw [cF_val, Fin.val_add, Int.natCast_emod, Int.natCast_add, cF_val, cF_val, ← Int.add_emod]
theorem cF_mul (x y : Int) : cF p (x * y) = cF p x * cF p y := by
  apply Fin.ext
  apply Int.ofNat.inj
  show (((cF p (x * y)).val : Nat) : Int) = (((cF p x * cF p y).val : Nat) : Int)
  rw [cF_val, Fin.val_mul, Int.natCast_emod, Int.natCast_mul, cF_val, cF_val, ← Int.mul_emod]
theorem cF_self : cF p (p : Int) = 0 := by
  apply Fin.ext
  apply Int.ofNat.inj
  show (((cF p p).val : Nat) : Int) = (((0 : Fin p).val : Nat) : Int)
  rw [cF_val, Int.emod_self]; simp
theorem cF_zero : cF p 0 = 0 := by
  apply Fin.ext
  apply Int.ofNat.inj
  show (((cF p 0).val : Nat) : Int) = (((0 : Fin p).val : Nat) : Int)
  rw [cF_val]; simp
theorem cF_sub (x y : Int) : cF p (x - y) = cF p x - cF p y := by
  have h := cF_add (p := p) (x - y) y
  rw [Int.sub_add_cancel] at h
  rw [h]; exact cs1 _ _
where cs1 (a b : Fin p) : a = a + b - b := by grind
theorem cF_tmod {x : Int} (h : 0 ≤ x) : cF p (Int.tmod x (p : Int)) = cF p x := by
  rw [Int.tmod_eq_emod_of_nonneg h]
  exact cF_ext (Int.emod_emod_of_dvd x (Int.dvd_refl _))
theorem tmod_bd {x : Int} (h : 0 ≤ x) : 0 ≤ Int.tmod x (p : Int) ∧ Int.tmod x (p : Int) < p := by
  rw [Int.tmod_eq_emod_of_nonneg h]
  exact ⟨Int.emod_nonneg x (Int.ne_of_gt pposZ), Int.emod_lt_of_pos x pposZ⟩
theorem cF_eq {x y : Int} (hx : 0 ≤ x ∧ x < p) (hy : 0 ≤ y ∧ y < p) : cF p x = cF p y ↔ x = y := by
  refine ⟨fun h => ?_, fun h => by rw [h]⟩
  have h1 := cF_val (p := p) x
  have h2 := cF_val (p := p) y
  rw [h, h2, Int.emod_eq_of_lt hx.1 hx.2, Int.emod_eq_of_lt hy.1 hy.2] at h1
  exact h1.symm
theorem cF_eq0 {x : Int} (hx : 0 ≤ x ∧ x < p) : cF p x = 0 ↔ x = 0 := by
  rw [← cF_zero]; exact cF_eq hx ⟨Int.le_refl _, pposZ⟩
theorem cF_fin (a : Fin p) : cF p (a.val : Int) = a := by
  apply Fin.ext
  apply Int.ofNat.inj
  show (((cF p (a.val : Int)).val : Nat) : Int) = ((a.val : Nat) : Int)
  rw [cF_val, Int.emod_eq_of_lt (by omega) (by have := a.isLt; omega)]
theorem cF_one (h1 : 1 < p) : cF p 1 = 1 := by
  apply Fin.ext
  apply Int.ofNat.inj
  show (((cF p 1).val : Nat) : Int) = (((1 : Fin p).val : Nat) : Int)
  have e : ((1 : Fin p).val) = 1 := by show 1 % p = 1; exact Nat.mod_eq_of_lt h1
  rw [cF_val, e, Int.emod_eq_of_lt (by omega) (by omega)]; rfl

/-! ### matrices as lists of rows -/
def ent (X : List (List Int)) (i j : Nat) : Int := (X.getD i []).getD j 0
structure MOk (p r n : Nat) (X : List (List Int)) : Prop where
  len : X.length = r
  row : ∀ i, i < r → (X.getD i []).length = n
  bd : ∀ i, i < r → ∀ j, j < n → 0 ≤ ent X i j ∧ ent X i j < p
def MF (p : Nat) [NeZero p] (X : List (List Int)) (i j : Nat) : Fin p := cF p (ent X i j)
theorem ent_set {X : List (List Int)} {i j : Nat} {v : Int} (hi : i < X.length) (hj : j < (X.getD i []).length) (a b : Nat) : ent (X.set i ((X.getD i []).set j v)) a b = if a = i ∧ b = j then v else ent X a b := by
  unfold ent
  have e : ∀ (l : List (List Int)) (k : Nat), l.getD k [] = (l[k]?).getD [] := fun l k => List.getD_eq_getElem?_getD ..
  rw [e (X.set i _) a, List.getElem?_set]
  by_cases c : i = a
  · subst c
    rw [if_pos rfl, if_pos hi]
    simp only [Option.getD_some, true_and]
    rw [List.getD_eq_getElem?_getD, List.getElem?_set]
    by_cases d : j = b
    · subst d; rw [if_pos rfl, if_pos hj, if_pos rfl]; rfl
    · rw [if_neg d, if_neg (Ne.symm d), ← List.getD_eq_getElem?_getD]
  · rw [if_neg c, if_neg (fun h => c h.1.symm), ← e]
theorem len_set2 (X : List (List Int)) (i j : Nat) (v : Int) (m : Nat) : ((X.set i ((X.getD i []).set j v)).getD m []).length = (X.getD m []).length := by
  rw [List.getD_eq_getElem?_getD, List.getElem?_set]
  split
  · rename_i e
    subst e
    split
    · simp
    · rename_i h; rw [List.getD_eq_getElem?_getD, List.getElem?_eq_none (by omega)]
  · rw [← List.getD_eq_getElem?_getD]
theorem MOk.put {r n : Nat} {X : List (List Int)} (h : MOk p r n X) {i j : Nat} {v : Int} (hi : i < r) (hj : j < n) (hv : 0 ≤ v ∧ v < p) : MOk p r n (X.set i ((X.getD i []).set j v)) := by
  refine ⟨by rw [List.length_set]; exact h.len, fun a ha => ?_, fun a ha b hb => ?_⟩
  · rw [len_set2]; exact h.row a ha
  · rw [ent_set (by rw [h.len]; exact hi) (by rw [h.row i hi]; exact hj)]
    split
    · exact hv
    · exact h.bd a ha b hb
theorem MF_put {r n : Nat} {X : List (List Int)} (h : MOk p r n X) {i j : Nat} {v : Int} (hi : i < r) (hj : j < n) (a b : Nat) : MF p (X.set i ((X.getD i []).set j v)) a b = if a = i ∧ b = j then cF p v else MF p X a b := by
  unfold MF
  rw [ent_set (by rw [h.len]; exact hi) (by rw [h.row i hi]; exact hj)]
  split <;> rfl
def sw (a b i : Nat) : Nat := if i = b then a else if i = a then b else i
theorem sw_lt {a b i r : Nat} (ha : a < r) (hb : b < r) (hi : i < r) : sw a b i < r := by unfold sw; split <;> (try split) <;> omega
theorem sw_sw (a b i : Nat) : sw a b (sw a b i) = i := by unfold sw; split <;> (try split) <;> (try split) <;> (try split) <;> omega
theorem getD_swap {X : List (List Int)} {a b : Nat} (ha : a < X.length) (hb : b < X.length) (i : Nat) : ((X.set a (X.getD b [])).set b (X.getD a [])).getD i [] = X.getD (sw a b i) [] := by
  have e : ∀ (l : List (List Int)) (k : Nat), l.getD k [] = (l[k]?).getD [] := fun l k => List.getD_eq_getElem?_getD ..
  rw [e (List.set _ _ _) i, List.getElem?_set, List.length_set, List.getElem?_set]
  unfold sw
  by_cases c : b = i
  · subst c; rw [if_pos rfl, if_pos hb, if_pos rfl]; rfl
  · rw [if_neg c, if_neg (Ne.symm c)]
    by_cases d : a = i
    · subst d; rw [if_pos rfl, if_pos ha, if_pos rfl]; rfl
    · rw [if_neg d, if_neg (Ne.symm d), ← e]
theorem MOk.swap {r n : Nat} {X : List (List Int)} (h : MOk p r n X) {a b : Nat} (ha : a < r) (hb : b < r) : MOk p r n ((X.set a (X.getD b [])).set b (X.getD a [])) := by
  have hla : a < X.length := by rw [h.len]; exact ha
  have hlb : b < X.length := by rw [h.len]; exact hb
  refine ⟨by simp [h.len], fun i hi => ?_, fun i hi j hj => ?_⟩
  · rw [getD_swap hla hlb]; exact h.row _ (sw_lt ha hb hi)
  · unfold ent; rw [getD_swap hla hlb]; exact h.bd _ (sw_lt ha hb hi) j hj
theorem MF_swap {r n : Nat} {X : List (List Int)} (h : MOk p r n X) {a b : Nat} (ha : a < r) (hb : b < r) (i j : Nat) : MF p ((X.set a (X.getD b [])).set b (X.getD a [])) i j = MF p X (sw a b i) j := by
  unfold MF ent
  rw [getD_swap (by rw [h.len]; exact ha) (by rw [h.len]; exact hb)]

/-! ### what is nought with all rows -/
def Ker (r n : Nat) (M : Nat → Nat → Fin p) (v : Nat → Fin p) : Prop := ∀ i, i < r → Sm n (fun j => M i j * v j) = 0
theorem ker_sw {r n a b : Nat} {M M' : Nat → Nat → Fin p} (ha : a < r) (hb : b < r) (h : ∀ i, i < r → ∀ j, j < n → M' i j = M (sw a b i) j) (v : Nat → Fin p) : Ker r n M' v ↔ Ker r n M v := by
  constructor
  · intro hk i hi
    have := hk _ (sw_lt ha hb hi)
    rw [Sm_congr fun j hj => by rw [h _ (sw_lt ha hb hi) j hj, sw_sw]] at this
    exact this
  · intro hk i hi
    have := hk _ (sw_lt ha hb hi)
    rw [Sm_congr fun j hj => by rw [h i hi j hj]]
    exact this
/-- Multiples of one row taken from others. -/
theorem ker_sub {r n k : Nat} {M M' : Nat → Nat → Fin p} {t : Nat → Fin p} (hk : k < r) (ht : t k = 0) (h : ∀ i, i < r → ∀ j, j < n → M' i j = M i j - t i * M k j) (v : Nat → Fin p) : Ker r n M' v ↔ Ker r n M v := by
  have e : ∀ i, i < r → Sm n (fun j => M' i j * v j) = Sm n (fun j => M i j * v j) - t i * Sm n (fun j => M k j * v j) := fun i hi => by
    rw [← Sm_mul, ← Sm_sub]
    exact Sm_congr fun j hj => by rw [h i hi j hj]; exact e1 _ _ _ _
  constructor
  · intro hv
    have hk0 : Sm n (fun j => M k j * v j) = 0 := by
      have := e k hk
      rw [ht, hv k hk] at this
      exact e2 this
    intro i hi
    have := e i hi
    rw [hk0, hv i hi] at this
    exact e3 this
  · intro hv i hi
    rw [e i hi, hv i hi, hv k hk]; exact e4 _
where
  e1 (a b c d : Fin p) : (a - b * c) * d = a * d - b * (c * d) := by grind
  e2 {a : Fin p} (h : 0 = a - 0 * a) : a = 0 := by grind
  e3 {a b : Fin p} (h : 0 = a - b * 0) : a = 0 := by grind
  e4 (a : Fin p) : 0 - a * 0 = 0 := by grind
/-- With all on and below the diagonal as it should be nothing else is nought with all rows. -/
theorem ker_ut (hp : Fld p) {r n : Nat} {M : Nat → Nat → Fin p} (hr : n ≤ r) (hd : ∀ i, i < n → M i i ≠ 0) (hu : ∀ i, i < n → ∀ j, j < i → M i j = 0) {v : Nat → Fin p} (hv : Ker r n M v) : ∀ j, j < n → v j = 0 := by
  have key : ∀ d j, j < n → n - j ≤ d → v j = 0 := by
    intro d
    induction d with
    | zero => intro j hj h; omega
    | succ d ih =>
      intro j hj h
      have h1 := hv j (by omega)
      rw [Sm_one (k := j) hj fun i hi hne => ?_] at h1
      · exact hp.zero_of (hd j hj) h1
      · rcases Nat.lt_or_ge i j with c | c
        · rw [hu j hj i c]; exact z1 _
        · rw [ih i hi (by omega)]; exact z2 _
  exact fun j hj => key n j hj (by omega)
where
  z1 (a : Fin p) : 0 * a = 0 := by grind
  z2 (a : Fin p) : a * 0 = 0 := by grind
end
end Go.SH
