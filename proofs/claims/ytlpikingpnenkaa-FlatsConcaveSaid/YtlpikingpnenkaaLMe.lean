/-
 Spaces of functions on monomials: leading monomials are as many as functionals that tell all apart, or fewer. Conditions: none.
-/
import Derived.Test.YtlpikingpnenkaaLMd
import Derived.Test.YtlpikingpnenkaaLMf
set_option linter.unusedSimpArgs false
set_option linter.unusedVariables false
namespace Go.SH
open Go Go.AX
abbrev F11 := Fin 11
theorem fld11 : Fld 11 := ⟨by decide, by decide⟩
/-- The monomials of degree k, as a list. -/
def ml : List Nat → Nat → List (Nat → Nat)
 | [], 0 => [fun _ => 0]
 | [], _ + 1 => []
 | v :: V, k => (List.range (k + 1)).flatMap fun a => (ml V (k - a)).map fun g => upd g v a
theorem ml_mem : ∀ {V : List Nat} {k : Nat} {g : Nat → Nat}, V.Nodup → (g ∈ ml V k ↔ Mo V k g)
 | [], 0, g, _ => by
  simp only [ml, List.mem_singleton]
  constructor
  ·rintro rfl; exact ⟨fun _ _ => rfl, rfl⟩
  ·intro h; exact funext fun i => h.1 i (by simp)
 | [], k + 1, g, _ => by
  simp only [ml, List.not_mem_nil, false_iff]
  intro h; have := h.2; simp [dg] at this
 | v :: V, k, g, hd => by
  have hv := (List.nodup_cons.1 hd).1
  simp only [ml, List.mem_flatMap, List.mem_range, List.mem_map]
  constructor
  ·rintro ⟨a, ha, h, h1, rfl⟩
   exact ((ml_mem (List.nodup_cons.1 hd).2).1 h1).ext hv (by omega)
  ·intro h
   have hk := h.2
   simp only [dg] at hk
   refine ⟨g v, by omega, upd g v 0, (ml_mem (List.nodup_cons.1 hd).2).2 ⟨fun i hi => ?_, by rw [dg_upd 0 hv]; omega⟩, by rw [upd_upd, upd_self]⟩
   rcases Nat.decEq i v with e | e
   ·rw [upd_ne g 0 e]; exact h.1 i fun q => (List.mem_cons.1 q).elim e hi
   ·rw [e, upd_at]
theorem ml_sum (f : (Nat → Nat) → Nat) : ∀ (V : List Nat) (k : Nat), ms V k f = ((ml V k).map f).foldr (· + ·) 0
  | [], 0 => by simp [ms, ml]
  | [], _ + 1 => rfl
  | v :: V, k => by
    simp only [ms, ml]
    have app : ∀ (a b : List Nat), (a ++ b).foldr (· + ·) 0 = a.foldr (· + ·) 0 + b.foldr (· + ·) 0 := fun a b => by
      induction a with
      | nil => simp
      | cons x a ih => simp only [List.cons_append, List.foldr_cons]; rw [ih]; omega
    have key : ∀ n, su (fun a => ms V (k - a) fun g => f (upd g v a)) n = (((List.range (n + 1)).flatMap fun a => (ml V (k - a)).map fun g => upd g v a).map f).foldr (· + ·) 0 := by
      intro n
      induction n with
      | zero =>
        simp only [su]
        have e : (List.flatMap (fun a => (ml V (k - a)).map fun g => upd g v a) (List.range (0 + 1))).map f = (ml V (k - 0)).map fun g => f (upd g v 0) := by
          show (List.flatMap _ [0]).map f = _
          simp only [List.flatMap_cons, List.flatMap_nil, List.append_nil, List.map_map]; rfl
        rw [ml_sum _ V (k - 0), e]
      | succ n ih =>
        simp only [su]
        have e : (List.flatMap (fun a => (ml V (k - a)).map fun g => upd g v a) [n + 1]).map f = (ml V (k - (n + 1))).map fun g => f (upd g v (n + 1)) := by
          simp only [List.flatMap_cons, List.flatMap_nil, List.append_nil, List.map_map]; rfl
        rw [ih, List.range_succ (n := n + 1), List.flatMap_append, List.map_append, app, ml_sum _ V (k - (n + 1)), e]
    exact key k
theorem ml_nodup : ∀ {V : List Nat} {k : Nat}, V.Nodup → (ml V k).Nodup
 | [], 0, _ => by simp [ml]
 | [], _ + 1, _ => by simp [ml]
 | v :: V, k, hd => by
  have hv := (List.nodup_cons.1 hd).1
  have hdV := (List.nodup_cons.1 hd).2
  have hz : ∀ a, ∀ g, g ∈ ml V (k - a) → g v = 0 := fun a g hg => ((ml_mem hdV).1 hg).1 v hv
  have key : ∀ n, ((List.range n).flatMap fun a => (ml V (k - a)).map fun g => upd g v a).Nodup := by
   intro n
   induction n with
   | zero => simp
   | succ n ih =>
    rw [List.range_succ, List.flatMap_append, List.nodup_append]
    refine ⟨ih, ?_, ?_⟩
    ·simp only [List.flatMap_cons, List.flatMap_nil, List.append_nil]
     unfold List.Nodup
     rw [List.pairwise_map]
     refine List.Pairwise.imp_of_mem ?_ (ml_nodup (k := k - n) hdV)
     intro g h hg hh hne e
     refine hne (funext fun i => ?_)
     rcases Nat.decEq i v with q | q
     ·have := congrFun e i
      rw [upd_ne _ _ q, upd_ne _ _ q] at this; exact this
     ·rw [q, hz n g hg, hz n h hh]
    ·intro g hg h hh e
     simp only [List.mem_flatMap, List.mem_range, List.mem_map, List.mem_singleton] at hg hh
     obtain ⟨a, a1, g', _, rfl⟩ := hg
     obtain ⟨b, rfl, h', _, rfl⟩ := hh
     have := congrFun e v
     rw [upd_at, upd_at] at this
     omega
  exact key (k + 1)
/-- A set of monomials, as a list. -/
theorem cn_list {V : List Nat} (hd : V.Nodup) (k : Nat) (S : (Nat → Nat) → Prop) : ∃ l : List (Nat → Nat), l.Nodup ∧ l.length = cn V k S ∧ ∀ g, g ∈ l ↔ Mo V k g ∧ S g := by
 classical
 refine ⟨(ml V k).filter fun g => decide (S g), (ml_nodup hd).filter _, ?_, fun g => ?_⟩
 ·unfold cn
  rw [ml_sum]
  generalize ml V k = l
  induction l with
  | nil => rfl
  | cons g l ih =>
   rw [List.filter_cons]
   by_cases q : S g
   ·rw [if_pos (decide_eq_true q)]
    simp only [List.length_cons, List.map_cons, List.foldr_cons, ind_t q]; omega
   ·rw [if_neg (by simpa using q)]
    simp only [List.map_cons, List.foldr_cons, ind_f q]; omega
 ·rw [List.mem_filter, ml_mem hd, decide_eq_true_eq]
theorem cn_of_list {V : List Nat} (hd : V.Nodup) {k : Nat} {S : (Nat → Nat) → Prop} {l : List (Nat → Nat)} (hl : l.Nodup) (h : ∀ g, g ∈ l → Mo V k g ∧ S g) : l.length ≤ cn V k S := by
 obtain ⟨m, m1, m2, m3⟩ := cn_list hd k S
 rw [← m2]
 exact hl.length_le_of_subset fun g hg => (m3 g).2 (h g hg)
/-! ### leading monomials -/
/-- A space of functions on monomials. -/
structure Spc (X : ((Nat → Nat) → F11) → Prop) : Prop where
 zero : X fun _ => 0
 add : ∀ c d, X c → X d → X fun g => c g + d g
 mul : ∀ (a : F11) c, X c → X fun g => a * c g
/-- A linear functional. -/
structure Lin (φ : ((Nat → Nat) → F11) → F11) : Prop where
 zero : φ (fun _ => 0) = 0
 add : ∀ c d, φ (fun g => c g + d g) = φ c + φ d
 mul : ∀ (a : F11) c, φ (fun g => a * c g) = a * φ c
/-- Leading monomials, by a number for each. -/
def Ld (co : (Nat → Nat) → Nat) (X : ((Nat → Nat) → F11) → Prop) (g : Nat → Nat) : Prop := ∃ c, X c ∧ c g ≠ 0 ∧ ∀ g', co g < co g' → c g' = 0
/-- A combination. -/
def cmb (y : Nat → F11) (c : Nat → (Nat → Nat) → F11) : Nat → (Nat → Nat) → F11
 | 0 => fun _ => 0
 | n + 1 => fun g => cmb y c n g + y n * c n g
theorem cmb_X {X : ((Nat → Nat) → F11) → Prop} (hX : Spc X) {y : Nat → F11} {c : Nat → (Nat → Nat) → F11} : ∀ {n : Nat}, (∀ i, i < n → X (c i)) → X (cmb y c n)
 | 0, _ => hX.zero
 | n + 1, h => hX.add _ _ (cmb_X hX fun i hi => h i (by omega)) (hX.mul _ _ (h n (by omega)))
theorem cmb_lin {φ : ((Nat → Nat) → F11) → F11} (hφ : Lin φ) (y : Nat → F11) (c : Nat → (Nat → Nat) → F11) : ∀ n, φ (cmb y c n) = Sm n fun i => y i * φ (c i)
 | 0 => hφ.zero
 | n + 1 => by
  show φ (fun g => cmb y c n g + y n * c n g) = _
  rw [hφ.add, hφ.mul, cmb_lin hφ y c n]; rfl
theorem cmb_at (y : Nat → F11) (c : Nat → (Nat → Nat) → F11) (g : Nat → Nat) : ∀ n, cmb y c n g = Sm n fun i => y i * c i g
 | 0 => rfl
 | n + 1 => by show cmb y c n g + y n * c n g = _; rw [cmb_at y c g n]; rfl
/-- Leading monomials are no more than functionals that tell all apart. -/
theorem Ld_le {V : List Nat} (hd : V.Nodup) {k : Nat} {co : (Nat → Nat) → Nat} (hco : ∀ g h, Mo V k g → Mo V k h → co g = co h → g = h) {X : ((Nat → Nat) → F11) → Prop} (hX : Spc X)
  {Φ : List (((Nat → Nat) → F11) → F11)} (hΦ : ∀ φ, φ ∈ Φ → Lin φ) (hinj : ∀ c, X c → (∀ φ, φ ∈ Φ → φ c = 0) → ∀ g, c g = 0) : cn V k (Ld co X) ≤ Φ.length := by
 classical
 refine Classical.byContradiction fun hno => ?_
 obtain ⟨l, l1, l2, l3⟩ := cn_list hd k (Ld co X)
 have hlt : Φ.length < l.length := by omega
 have hc : ∀ i, ∃ c, i < l.length → X c ∧ c (l.getD i fun _ => 0) ≠ 0 ∧ ∀ g', co (l.getD i fun _ => 0) < co g' → c g' = 0 := fun i => by
  by_cases q : i < l.length
  ·have hm : l.getD i (fun _ => 0) ∈ l := by rw [List.getD_eq_getElem?_getD, List.getElem?_eq_getElem q]; exact List.getElem_mem q
   obtain ⟨c, h⟩ := ((l3 _).1 hm).2
   exact ⟨c, fun _ => h⟩
  ·exact ⟨fun _ => 0, fun z => absurd z q⟩
 obtain ⟨c, hc⟩ : ∃ c : Nat → (Nat → Nat) → F11, ∀ i, i < l.length → X (c i) ∧ c i (l.getD i fun _ => 0) ≠ 0 ∧ ∀ g', co (l.getD i fun _ => 0) < co g' → c i g' = 0 := ⟨fun i => Classical.choose (hc i), fun i hi => Classical.choose_spec (hc i) hi⟩
 obtain ⟨y, ⟨i1, hi1, hy1⟩, hy⟩ := nontriv fld11 Φ.length l.length (fun i j => (Φ.getD j fun _ => 0) (c i)) hlt
 have hz := hinj (cmb y c l.length) (cmb_X hX fun i hi => (hc i hi).1) fun φ hφ => by
  obtain ⟨j, hj, e⟩ := List.getElem_of_mem hφ
  have e' : Φ.getD j (fun _ => 0) = φ := by rw [List.getD_eq_getElem?_getD, List.getElem?_eq_getElem hj]; exact e
  have := hy j hj
  rw [e'] at this
  rw [cmb_lin (hΦ φ hφ)]; exact this
 -- the greatest one that counts
 have hmax : ∀ n, ∃ i, i < l.length ∧ y i ≠ 0 ∧ ∀ i', i' < l.length → y i' ≠ 0 → co (l.getD i' fun _ => 0) ≤ n + co (l.getD i1 fun _ => 0) → co (l.getD i' fun _ => 0) ≤ co (l.getD i fun _ => 0) := by
  intro n
  induction n with
  | zero => exact ⟨i1, hi1, hy1, fun i' _ _ h => by omega⟩
  | succ n ih =>
   obtain ⟨i, a1, a2, a3⟩ := ih
   by_cases q : ∃ i', i' < l.length ∧ y i' ≠ 0 ∧ co (l.getD i' fun _ => 0) = n + 1 + co (l.getD i1 fun _ => 0)
   ·obtain ⟨i', b1, b2, b3⟩ := q
    exact ⟨i', b1, b2, fun i'' c1 c2 c3 => by omega⟩
   ·refine ⟨i, a1, a2, fun i' c1 c2 c3 => ?_⟩
    rcases Nat.lt_or_ge (n + co (l.getD i1 fun _ => 0)) (co (l.getD i' fun _ => 0)) with w | w
    ·exact absurd ⟨i', c1, c2, by omega⟩ q
    ·exact a3 i' c1 c2 w
 have hbd : ∃ B, ∀ i, i < l.length → co (l.getD i fun _ => 0) ≤ B := by
  have : ∀ n, ∃ B, ∀ i, i < n → co (l.getD i fun _ => 0) ≤ B := by
   intro n
   induction n with
   | zero => exact ⟨0, fun i hi => absurd hi (Nat.not_lt_zero _)⟩
   | succ n ih =>
    obtain ⟨B, hB⟩ := ih
    refine ⟨B + co (l.getD n fun _ => 0), fun i hi => ?_⟩
    rcases Nat.lt_or_ge i n with q | q
    ·have := hB i q; omega
    ·rw [show i = n by omega]; omega
  exact this _
 obtain ⟨B, hB⟩ := hbd
 obtain ⟨i, a1, a2, a3⟩ := hmax B
 have hv := hz (l.getD i fun _ => 0)
 rw [cmb_at, Sm_one a1 fun i' hi' hne => ?_] at hv
 ·exact fld11.mul_ne a2 (hc i a1).2.1 hv
 ·by_cases q : y i' = 0
  ·rw [q]; exact Fin.zero_mul _
  ·have hle := a3 i' hi' q (by have := hB i' hi'; omega)
   have hM : ∀ x, x < l.length → Mo V k (l.getD x fun _ => 0) := fun x hx => by
    have hm : l.getD x (fun _ => 0) ∈ l := by rw [List.getD_eq_getElem?_getD, List.getElem?_eq_getElem hx]; exact List.getElem_mem hx
    exact ((l3 _).1 hm).1
   have hlt2 : co (l.getD i' fun _ => 0) < co (l.getD i fun _ => 0) := by
    rcases Nat.lt_or_ge (co (l.getD i' fun _ => 0)) (co (l.getD i fun _ => 0)) with w | w
    ·exact w
    ·exfalso
     have e := hco _ _ (hM i' hi') (hM i a1) (by omega)
     rw [List.getD_eq_getElem?_getD, List.getElem?_eq_getElem hi', List.getD_eq_getElem?_getD, List.getElem?_eq_getElem a1] at e
     exact hne ((List.getElem_inj l1).1 e)
   rw [(hc i' hi').2.2 _ hlt2]; exact Fin.mul_zero _
/-- What is nought at all leading monomials is nought. -/
theorem Ld_det {V : List Nat} {k : Nat} {co : (Nat → Nat) → Nat} {X : ((Nat → Nat) → F11) → Prop} (hsup : ∀ c, X c → ∀ g, c g ≠ 0 → Mo V k g) {B : Nat} (hB : ∀ g, Mo V k g → co g ≤ B) (hco : ∀ g h, Mo V k g → Mo V k h → co g = co h → g = h)
  {c : (Nat → Nat) → F11} (hc : X c) (h : ∀ g, Mo V k g → Ld co X g → c g = 0) : ∀ g, c g = 0 := by
 have key : ∀ n, ∀ g, B < co g + n → c g = 0 := by
  intro n
  induction n with
  | zero =>
   intro g hg
   refine Classical.byContradiction fun q => ?_
   have := hB g (hsup c hc g q)
   omega
  | succ n ih =>
   intro g hg
   refine Classical.byContradiction fun q => q (h g (hsup c hc g q) ⟨c, hc, q, fun g' hg' => ih g' (by omega)⟩)
 exact fun g => key (B + 1) g (by omega)
end Go.SH
