/-
  A graph's edges as columns with 1 and -1, modulo any prime: the statement KindsTotal as a plain law. Conditions: none.
-/
import Derived.Test.YtdhbpoafkhojnaaLKf
import Derived.Test.YtdhbpoafkhojnaaLGk
import Derived.Test.YtdhbpoafkhojnaaLSm
import Derived.Test.YtdhbpoafkhojnaaSkKindsTotal
import Derived.Test.YtdhbpoafkhojnaaSprotaref
import Derived.Test.YtdhbpoafkhojnaaSpkindsu
set_option linter.unusedSimpArgs false
set_option linter.unusedVariables false
set_option linter.unusedSectionVars false
namespace Go.SH
open Go Go.AX

section
variable {p : Nat} [NeZero p]
def dl (w a : Nat) : Fin p := if w = a then 1 else 0
def inc (E : List (Int × Int)) (w j : Nat) : Fin p := dl w (hA E j) - dl w (hB E j)
theorem sum_dl {N a : Nat} (ha : a < N) (χ : Nat → Fin p) : Sm N (fun w => χ w * dl w a) = χ a := by
  rw [Sm_one (k := a) ha fun i hi hne => ?_]
  · simp only [dl, if_true]; grind
  · simp only [dl, if_neg hne]; exact z1 _
theorem sum_inc {N : Nat} {E : List (Int × Int)} (hE : EndsLt N E) {j : Nat} (hj : j < E.length) (χ : Nat → Fin p) : Sm N (fun w => χ w * inc E w j) = χ (hA E j) - χ (hB E j) := by
  obtain ⟨a, b⟩ := hE j hj
  rw [← sum_dl a χ, ← sum_dl b χ, ← Sm_sub]
  exact Sm_congr fun w _ => kt1 _ _ _
where
  kt1 (x y z : Fin p) : x * (y - z) = x * y - x * z := by grind
/-- What hangs together is told by the edges' columns. -/
theorem con_span {E : List (Int × Int)} {S u v : Nat} (h : Con E S u v) : ∃ c : Nat → Fin p, (∀ j, S.testBit j = false → c j = 0) ∧ ∀ w, Sm E.length (fun j => inc E w j * c j) = dl w u - dl w v := by
  induction h with
  | refl => exact ⟨fun _ => 0, fun _ _ => rfl, fun w => by rw [Sm_zero fun i _ => z1 _]; exact ks0 _⟩
  | @tail v w' _ a ih =>
    obtain ⟨c, c1, c2⟩ := ih
    obtain ⟨k, k1, k2, k3⟩ := a
    have one : ∀ (w : Nat) (x : Fin p), Sm E.length (fun j => inc E w j * (if j = k then x else 0)) = inc E w k * x := fun w x => by
      rw [Sm_one (k := k) k1 fun i hi hne => by rw [if_neg hne]; exact z1 _, if_pos rfl]
    have sp : ∀ (w : Nat) (x : Fin p), Sm E.length (fun j => inc E w j * (c j + if j = k then x else 0)) = dl w u - dl w v + inc E w k * x := fun w x => by
      rw [← c2, ← one, ← Sm_add]
      exact Sm_congr fun j _ => ks1 _ _ _
    have sup : ∀ (x : Fin p) j, S.testBit j = false → (c j + if j = k then x else 0) = 0 := fun x j hj => by
      rw [c1 j hj, if_neg (fun e => by rw [e, k2] at hj; cases hj)]; exact ks2
    rcases k3 with ⟨rfl, rfl⟩ | ⟨rfl, rfl⟩
    · exact ⟨_, sup 1, fun w => by rw [sp]; exact ks3 _ _ _⟩
    · exact ⟨_, sup (-1), fun w => by rw [sp]; exact ks4 _ _ _⟩
where
  ks0 (a : Fin p) : 0 = a - a := by grind
  ks1 (a b c : Fin p) : a * (b + c) = a * b + a * c := by grind
  ks2 : (0 : Fin p) + 0 = 0 := by grind
  ks3 (u a b : Fin p) : u - a + (a - b) * 1 = u - b := by grind
  ks4 (u a b : Fin p) : u - b + (a - b) * (-1) = u - a := by grind
/-- Forests are the columns that do not hang on one another. -/
theorem forest_ind {N : Nat} {E : List (Int × Int)} (hN : 1 ≤ N) (hE : EndsLt N E) {X : List (List Int)} (h1 : (1 : Fin p) ≠ 0) (hX : ∀ w, w < N - 1 → ∀ j, j < E.length → MF p X w j = inc E w j) {s : Nat} (hs : s < 2 ^ E.length) : ColInd p (N - 1) E.length X s ↔ GF E s := by
  constructor
  · intro h k hk hb hc
    obtain ⟨c, c1, c2⟩ := con_span (p := p) hc
    have ck : c k = 0 := c1 k (by rw [Nat.testBit_and, Nat.testBit_two_pow_sub_one]; simp)
    have := h (fun j => c j + if j = k then -1 else 0) (fun i hi => ?_) (fun j hj hbj => ?_) k hk
    · simp only [ck, if_true] at this
      exact h1 (ft0 this)
    · have one : Sm E.length (fun j => inc E i j * (if j = k then (-1 : Fin p) else 0)) = inc E i k * (-1) := by
        rw [Sm_one (k := k) hk fun i hi hne => by rw [if_neg hne]; exact z1 _, if_pos rfl]
      rw [Sm_congr (g := fun j => inc E i j * c j + inc E i j * (if j = k then (-1 : Fin p) else 0)) fun j hj => by rw [hX i hi j hj]; exact ft8 _ _ _]
      rw [Sm_add, c2, one]; exact ft1 _ _
    · have hne : j ≠ k := fun e => by rw [e, hb] at hbj; cases hbj
      simp only [if_neg hne]
      rw [c1 j (by rw [Nat.testBit_and, hbj]; rfl)]; exact ft9
  · intro h v hk hv
    -- all vertices' rows
    have all : ∀ w, w < N → Sm E.length (fun j => inc E w j * v j) = 0 := by
      have low : ∀ w, w < N - 1 → Sm E.length (fun j => inc E w j * v j) = 0 := fun w hw => by
        rw [← hk w hw]
        exact Sm_congr fun j hj => by rw [hX w hw j hj]
      intro w hw
      rcases Nat.lt_or_ge w (N - 1) with q | q
      · exact low w q
      · have e : w = N - 1 := by omega
        have tot : Sm N (fun w => Sm E.length (fun j => inc E w j * v j)) = 0 := by
          rw [Sm_comm]
          refine Sm_zero fun j hj => ?_
          rw [Sm_mulr]
          have := sum_inc (p := p) hE hj (fun _ => 1)
          rw [Sm_congr (g := fun w => inc E w j) (fun w _ => ft2 _)] at this
          rw [this]; exact ft3 _ _
        obtain ⟨M, rfl⟩ : ∃ M, N = M + 1 := ⟨N - 1, by omega⟩
        rw [Sm, Sm_zero fun i hi => low i (by omega)] at tot
        rw [e]; exact ft4 tot
    refine fun j0 hj0 => Classical.byContradiction fun hne => ?_
    -- the last one that is not nought
    obtain ⟨k, k1, k2, k3⟩ : ∃ k, k < E.length ∧ v k ≠ 0 ∧ ∀ j, k < j → j < E.length → v j = 0 := by
      have : ∀ d j, j < E.length → v j ≠ 0 → E.length - j ≤ d → ∃ k, k < E.length ∧ v k ≠ 0 ∧ ∀ j, k < j → j < E.length → v j = 0 := by
        intro d
        induction d with
        | zero => intro j hj _ hd; omega
        | succ d ih =>
          intro j hj hn hd
          by_cases c : ∃ i, j < i ∧ i < E.length ∧ v i ≠ 0
          · obtain ⟨i, i1, i2, i3⟩ := c
            exact ih i i2 i3 (by omega)
          · exact ⟨j, hj, hn, fun i i1 i2 => Classical.byContradiction fun q => c ⟨i, i1, i2, q⟩⟩
      exact this _ j0 hj0 hne (Nat.le_refl _)
    have kb : s.testBit k = true := by
      cases q : s.testBit k with
      | true => rfl
      | false => exact absurd (hv k k1 q) k2
    have hkc := h k k1 kb
    obtain ⟨χ, hχ⟩ : ∃ χ : Nat → Fin p, ∀ w, (Con E (s &&& (2 ^ k - 1)) (hA E k) w → χ w = 1) ∧ (¬ Con E (s &&& (2 ^ k - 1)) (hA E k) w → χ w = 0) := by
      classical
      exact ⟨fun w => if Con E (s &&& (2 ^ k - 1)) (hA E k) w then 1 else 0, fun w => ⟨fun q => if_pos q, fun q => if_neg q⟩⟩
    have tot : Sm N (fun w => χ w * Sm E.length (fun j => inc E w j * v j)) = 0 := Sm_zero fun w hw => by rw [all w hw]; exact z1 _
    have e : Sm N (fun w => χ w * Sm E.length (fun j => inc E w j * v j)) = Sm E.length (fun j => (χ (hA E j) - χ (hB E j)) * v j) := by
      rw [Sm_congr (g := fun w => Sm E.length (fun j => χ w * (inc E w j * v j))) fun w _ => (Sm_mul _ _ _).symm, Sm_comm]
      refine Sm_congr fun j hj => ?_
      rw [← sum_inc hE hj, ← Sm_mulr]
      exact Sm_congr fun w _ => ft5 _ _ _
    rw [e, Sm_one (k := k) k1 fun j hj hjk => ?_] at tot
    · rw [(hχ _).1 (.refl _), (hχ _).2 hkc] at tot
      exact k2 (ft6 tot)
    · rcases Nat.lt_or_ge k j with q | q
      · rw [k3 j q hj]; exact z1 _
      · cases hb : s.testBit j with
        | false => rw [hv j hj hb]; exact z1 _
        | true =>
          have hS : (s &&& (2 ^ k - 1)).testBit j = true := by rw [Nat.testBit_and, Nat.testBit_two_pow_sub_one, hb]; simp; omega
          have hc := Con.edge hj hS
          by_cases c : Con E (s &&& (2 ^ k - 1)) (hA E k) (hA E j)
          · rw [(hχ _).1 c, (hχ _).1 (c.trans hc)]; exact ft7 _ _
          · rw [(hχ _).2 c, (hχ _).2 (fun q => c (q.trans hc.symm))]; exact ft7 _ _
where
  ft0 (h : (0 : Fin p) + -1 = 0) : (1 : Fin p) = 0 := by
    have e : ∀ a : Fin p, (0 : Fin p) + -a = 0 → a = 0 := fun a h => by grind
    exact e 1 h
  ft1 (a b : Fin p) : a - b + (a - b) * (-1) = 0 := by grind
  ft2 (a : Fin p) : 1 * a = a := by grind
  ft3 (a b : Fin p) : (a - a) * b = 0 := by grind
  ft4 {a : Fin p} (h : 0 + a = 0) : a = 0 := by grind
  ft5 (a b c : Fin p) : a * (b * c) = a * b * c := by grind
  ft6 {a : Fin p} (h : (1 - 0) * a = 0) : a = 0 := by grind
  ft7 (a b : Fin p) : (a - a) * b = 0 := by grind
  ft8 (a b c : Fin p) : a * (b + c) = a * b + a * c := by grind
  ft9 : (0 : Fin p) + 0 = 0 := by grind
/-- The numbers that stand in the rows. -/
def incI (p : Nat) (E : List (Int × Int)) (v i : Nat) : Int :=
  let a : Int := if hA E i = v then Int.tmod (0 + 1) p else 0
  if hB E i = v then Int.tmod (a + p - 1) p else a
theorem incI_ok (hp1 : 1 < p) (E : List (Int × Int)) (v i : Nat) : (0 ≤ incI p E v i ∧ incI p E v i < p) ∧ cF p (incI p E v i) = inc E v i := by
  have t1 : Int.tmod (0 + 1) (p : Int) = 1 := by
    rw [Int.tmod_eq_emod_of_nonneg (by omega)]; exact Int.emod_eq_of_lt (by omega) (by omega)
  obtain ⟨a, ha⟩ : ∃ a : Int, a = if hA E i = v then Int.tmod (0 + 1) p else 0 := ⟨_, rfl⟩
  have a1 : 0 ≤ a ∧ a < p := by rw [ha, t1]; split <;> omega
  have a2 : cF p a = dl v (hA E i) := by
    rw [ha, t1, dl]
    by_cases c : hA E i = v
    · rw [if_pos c, if_pos c.symm, cF_one hp1]
    · rw [if_neg c, if_neg (Ne.symm c), cF_zero]
  unfold incI inc
  rw [← ha, ← a2]
  simp only [dl]
  by_cases c : hB E i = v
  · rw [if_pos c, if_pos c.symm]
    have hpos : 0 ≤ a + p - 1 := by omega
    refine ⟨tmod_bd hpos, ?_⟩
    rw [cF_tmod hpos, cF_sub, cF_add, cF_self, cF_one hp1]; exact ii1 _ _
  · rw [if_neg c, if_neg (Ne.symm c)]
    exact ⟨a1, ii2 _⟩
where
  ii1 (a b : Fin p) : a + 0 - b = a - b := by grind
  ii2 (a : Fin p) : a = a - 0 := by grind
end
theorem Choose21 : sets_Choose 2 1 = some ([1, 2], 0) := by
  unfold sets_Choose
  rw [if_neg (by omega), chk_pos (by omega)]
  rw [loopM_of (n := 6) (r := [1, 2]) (by kernel_rfl)]
  rfl
theorem Pick_spec {k : Int} (h : -9223372036854775808 ≤ k ∧ k ≤ 9223372036854775807) {n : Nat} (hn : 1 ≤ n) : Gets (rotaref_Pick k n) (fun y => ∃ i : Nat, y = (i : Int) ∧ i < n) := by
  unfold rotaref_Pick
  have key : ∀ x : Int, 0 ≤ x → ∃ i : Nat, Int.tmod x n = (i : Int) ∧ i < n := fun x hx => by
    have h1 := Int.emod_nonneg x (show (n : Int) ≠ 0 by omega)
    have h2 := Int.emod_lt_of_pos x (show (0 : Int) < n by omega)
    rw [Int.tmod_eq_emod_of_nonneg hx]
    exact ⟨(x % n).toNat, by omega, by omega⟩
  refine gIte (fun h1 => gChk ⟨by omega, by omega⟩ (gChk (by omega) (gSome (key _ (by omega))))) fun h1 => gChk (by omega) (gSome (key _ (by omega)))
theorem primes_at {i : Nat} (hi : i < 4) : ∃ (p : Nat) (_ : NeZero p), [2, 3, 5, 7].getD i (0 : Int) = (p : Int) ∧ Fld p ∧ 1 < p ∧ p ≤ 7 ∧ (p = 2 ∨ p = 3 ∨ p = 5 ∨ p = 7) := by
  match i, hi with
  | 0, _ => exact ⟨2, inferInstance, rfl, fld2, by omega, by omega, .inl rfl⟩
  | 1, _ => exact ⟨3, inferInstance, rfl, fld3, by omega, by omega, .inr (.inl rfl)⟩
  | 2, _ => exact ⟨5, inferInstance, rfl, fld5, by omega, by omega, .inr (.inr (.inl rfl))⟩
  | 3, _ => exact ⟨7, inferInstance, rfl, fld7, by omega, by omega, .inr (.inr (.inr rfl))⟩
theorem primes_nz {i : Nat} (hi : i < 4) : [2, 3, 5, 7].getD i 0 ≠ 0 := by
  match i, hi with
  | 0, _ => decide
  | 1, _ => decide
  | 2, _ => decide
  | 3, _ => decide
theorem getD_set_int {l : List Int} {i : Nat} (hi : i < l.length) (v : Int) (j : Nat) : (l.set i v).getD j 0 = if j = i then v else l.getD j 0 := by
  rw [List.getD_eq_getElem?_getD, List.getElem?_set]
  by_cases c : i = j
  · subst c; rw [if_pos rfl, if_pos hi, if_pos rfl]; rfl
  · rw [if_neg c, if_neg (Ne.symm c), ← List.getD_eq_getElem?_getD]

theorem rotakeep_KindsTotal_law (N : Int) (E : List (Int × Int)) (k : Int) (hk : -9223372036854775808 ≤ k ∧ k ≤ 9223372036854775807) : rotakeep_KindsTotal N E k = some true := by
  refine Gets.eq ?_
  unfold rotakeep_KindsTotal
  refine gBind (R := fun y => y = (2, [1, 2], 0)) ?_ ?_
  · unfold kinds_Uniform
    rw [Choose21]
    exact gSome rfl
  rintro _ rfl
  refine gIte (fun _ => ?_) fun h => absurd (by simp) h
  have hS : rotalaw_Same_int (2, [1, 2], 0).2.1 [1, 2] = some true := by rw [Same_spec]; simp
  refine gBindE hS (gIte (fun h => absurd rfl h) fun _ => ?_)
  obtain ⟨e, he, he1, he2⟩ := CheckGraph_spec N E
  by_cases hG : CG N E
  rotate_left
  · have e1 : e = 1 := by rcases he1 with q | q; exact absurd (he2.1 q) hG; exact q
    subst e1
    have : kinds_Graphic N E = some (0, [], 1) := by unfold kinds_Graphic; rw [he]; rfl
    rw [this]
    exact gBindE rfl (gIte (fun _ => gSome (by simp)) fun h => absurd (by simp) h)
  obtain ⟨n, rfl⟩ : ∃ n : Nat, N = n := ⟨N.toNat, by have := hG.n1; omega⟩
  obtain ⟨hE, hx⟩ := hG.ends
  have n1 := hG.n1
  have n7 := hG.n7
  have e8 := hG.e8
  refine gBind (Graphic_spec hG) ?_
  rintro _ ⟨K, rfl, hF, hK⟩
  refine gIte (fun h => absurd rfl h) fun _ => ?_
  refine gBind (Pick_spec hk (n := 4) (by omega)) ?_
  rintro _ ⟨i, rfl, hi⟩
  simp only [toNat_nat]
  obtain ⟨p, inst, hp0, hp, hp1, h7, hp4⟩ := primes_at hi
  simp only [hp0]
  refine gChk ⟨by omega, by omega⟩ (gChk ⟨by omega, by omega⟩ ?_)
  refine gBind (R := fun X => X.length = n - 1 ∧ ∀ v, v < n - 1 → (X.getD v []).length = E.length ∧ ∀ j, j < E.length → ent X v j = incI p E v j) ?_ ?_
  · refine gFor (n - 1) (fun v (x : List (List Int) × Int) => x.2 = (v : Int) ∧ x.1.length = v ∧ ∀ w, w < v → (x.1.getD w []).length = E.length ∧ ∀ j, j < E.length → ent x.1 w j = incI p E w j) (Nat.zero_le _) ⟨rfl, rfl, fun w hw => by omega⟩ ?_
    rintro v ⟨X, _⟩ hv ⟨rfl, x1, x2⟩
    dsimp only at x1 x2 ⊢
    refine gIte (fun h1 => ?_) fun h1 => gSome ⟨by omega, fun w hw => x2 w (by omega)⟩
    have hvn : v < n - 1 := by omega
    refine gChk ⟨by omega, by omega⟩ (gBind (R := fun l => l.length = E.length ∧ ∀ j, j < E.length → l.getD j 0 = incI p E v j) ?_ ?_)
    · refine gFor E.length (fun j (x : List Int × Int) => x.2 = (j : Int) ∧ x.1.length = E.length ∧ (∀ a, a < j → x.1.getD a 0 = incI p E v a) ∧ ∀ a, j ≤ a → x.1.getD a 0 = 0) (Nat.zero_le _) ⟨rfl, by simp, fun a ha => by omega, fun a _ => ?_⟩ ?_
      · rw [List.getD_eq_getElem?_getD, List.getElem?_replicate]; split <;> rfl
      rintro j ⟨l, _⟩ hj ⟨rfl, l1, l2, l3⟩
      dsimp only at l1 l2 l3 ⊢
      refine gIte (fun h2 => ?_) fun h2 => gSome ⟨l1, fun a ha => l2 a (by omega)⟩
      have hjl : j < E.length := by omega
      obtain ⟨y1, y2⟩ := hx j hjl
      refine gChk ⟨by omega, by omega⟩ ?_
      simp only [toNat_nat, y1, y2]
      have la : l.getD j 0 = 0 := l3 j (Nat.le_refl _)
      have b1 := (incI_ok hp1 E v j).1
      obtain ⟨a, ha⟩ : ∃ a : Int, a = if hA E j = v then Int.tmod (0 + 1) p else 0 := ⟨_, rfl⟩
      have t1 : Int.tmod (0 + 1) (p : Int) = 1 := by
        rw [Int.tmod_eq_emod_of_nonneg (by omega)]; exact Int.emod_eq_of_lt (by omega) (by omega)
      have a1 : 0 ≤ a ∧ a ≤ 1 := by rw [ha, t1]; split <;> omega
      have ei : incI p E v j = if hB E j = v then Int.tmod (a + p - 1) p else a := by rw [ha]; rfl
      have fin : ∀ l' : List Int, l'.length = E.length → (∀ b, l'.getD b 0 = if b = j then incI p E v j else l.getD b 0) → l'.length = E.length ∧ (∀ b, b < j + 1 → l'.getD b 0 = incI p E v b) ∧ ∀ b, j + 1 ≤ b → l'.getD b 0 = 0 := fun l' q1 q2 => ⟨q1, fun b hb => by
        rw [q2]
        by_cases c : b = j
        · subst c; rw [if_pos rfl]
        · rw [if_neg c]; exact l2 b (by omega), fun b hb => by rw [q2, if_neg (by omega)]; exact l3 b (by omega)⟩
      refine gJoin (R := fun l' : List Int => l'.length = E.length ∧ ∀ b, l'.getD b 0 = if b = j then a else l.getD b 0) (fun l' hl' => ?_) fun jj hj' => ?_
      · obtain ⟨q1, q2⟩ := hl'
        have qa : l'.getD j 0 = a := by rw [q2, if_pos rfl]
        refine gIte (fun h3 => ?_) fun h3 => ?_
        · have h3' : hB E j = v := by omega
          rw [if_pos h3'] at ei
          simp only [qa]
          refine gChk ⟨⟨by omega, by omega⟩, ⟨by omega, by omega⟩, ⟨by omega, by omega⟩, primes_nz hi⟩ ?_
          refine gSome ⟨hjl, by simp, fin _ (by rw [List.length_set]; exact q1) fun b => ?_⟩
          rw [getD_set_int (by omega), ei, q2 b]
          by_cases c : b = j
          · rw [if_pos c, if_pos c]
          · rw [if_neg c, if_neg c, if_neg c]
        · rw [if_neg (fun e => h3 (by omega))] at ei
          exact gSome ⟨hjl, by simp, fin _ q1 fun b => by rw [q2, ei]⟩
      · simp only [la]
        refine gIte (fun h3 => ?_) fun h3 => ?_
        · have h3' : hA E j = v := by omega
          rw [if_pos h3'] at ha
          refine gChk ⟨⟨by omega, by omega⟩, ⟨by omega, by omega⟩, primes_nz hi⟩ (hj' _ ⟨by rw [List.length_set]; exact l1, fun b => ?_⟩)
          rw [getD_set_int (by omega), ha]
        · rw [if_neg (fun e => h3 (by omega))] at ha
          refine hj' _ ⟨l1, fun b => ?_⟩
          by_cases c : b = j
          · rw [if_pos c, c, ha]; exact la
          · rw [if_neg c]
    · rintro l ⟨l1, l2⟩
      refine gChk (by simp; omega) (gChk ⟨by omega, by omega⟩ (gSome ⟨hvn, by simp, by simp [x1], fun w hw => ?_⟩))
      rcases Nat.lt_succ_iff_lt_or_eq.1 hw with q | q
      · have e : (X ++ [l]).getD w [] = X.getD w [] := by rw [List.getD_eq_getElem?_getD, List.getElem?_append_left (by omega), ← List.getD_eq_getElem?_getD]
        have := x2 w q
        unfold ent at this ⊢
        rw [e]; exact this
      · subst q
        have e : (X ++ [l]).getD w [] = l := by rw [List.getD_eq_getElem?_getD, List.getElem?_append_right (by omega), x1, Nat.sub_self]; rfl
        unfold ent
        rw [e]; exact ⟨l1, l2⟩
  rintro X ⟨x1, x2⟩
  have hX : MOk p (n - 1) E.length X := ⟨x1, fun v hv => (x2 v hv).1, fun v hv j hj => by rw [(x2 v hv).2 j hj]; exact (incI_ok hp1 E v j).1⟩
  have hMF : ∀ w, w < n - 1 → ∀ j, j < E.length → MF p X w j = inc E w j := fun w hw j hj => by
    unfold MF
    rw [(x2 w hw).2 j hj]; exact (incI_ok hp1 E w j).2
  refine gBind (Linear_spec hp h7 hX (by omega) e8 (CM.of hp4 e8 (by omega) hX)) ?_
  rintro _ ⟨K', rfl, hF', hK'⟩
  have ee : K' = K := hF'.ext hF fun s => by
    rw [hK', hK]
    have iff : ∀ t, t < 2 ^ E.length → (ColInd p (n - 1) E.length X t ↔ GF E t) := fun t ht => forest_ind (by omega) hE hp.one hMF ht
    constructor
    · rintro ⟨a, b, c⟩
      exact ⟨a, (iff s a).1 b, fun t ht g => c t ht ((iff t ht).2 g)⟩
    · rintro ⟨a, b, c⟩
      exact ⟨a, (iff s a).2 b, fun t ht g => c t ht ((iff t ht).1 g)⟩
  subst ee
  rw [if_pos rfl, SameMatroid_self]
  exact gBindE rfl (gSome (by simp))
end Go.SH
