/-
  Package tutte as it computes: the polynomial's table, by ranks and what is too much. Conditions: none.
-/
import Derived.Test.YtabhcjpjoknihaaLSg
import Derived.Test.YtabhcjpjoknihaaLAb
import Derived.Test.YtabhcjpjoknihaaLRm
set_option linter.unusedSimpArgs false
set_option linter.unusedVariables false
namespace Go.SH
open Go Go.AX

/-- Rows of one length, by their entries. -/
structure Mx (t : List (List Int)) (p q : Nat) (f : Nat → Nat → Int) : Prop where
  len : t.length = p
  row : ∀ i, i < p → (t.getD i []).length = q
  val : ∀ i, i < p → ∀ j, j < q → (t.getD i []).getD j 0 = f i j
theorem getD_setM {t : List (List Int)} {i : Nat} (x : List Int) (hi : i < t.length) (k : Nat) : (t.set i x).getD k [] = if k = i then x else t.getD k [] := by
  rw [List.getD_eq_getElem?_getD, List.getD_eq_getElem?_getD, List.getElem?_set]
  by_cases c : i = k
  · subst c; simp [hi]
  · rw [if_neg c, if_neg (Ne.symm c)]
theorem Mx.set {t : List (List Int)} {p q : Nat} {f : Nat → Nat → Int} (h : Mx t p q f) {i j : Nat} (hi : i < p) (hj : j < q) (v : Int) : Mx (t.set i ((t.getD i []).set j v)) p q (fun a b => if a = i ∧ b = j then v else f a b) where
  len := by rw [List.length_set]; exact h.len
  row := fun a ha => by
    rw [getD_setM _ (by rw [h.len]; exact hi)]
    split
    · rw [List.length_set]; exact h.row i hi
    · exact h.row a ha
  val := fun a ha b hb => by
    rw [getD_setM _ (by rw [h.len]; exact hi)]
    by_cases c : a = i
    · subst c
      rw [if_pos rfl, set_getD _ (by rw [h.row a ha]; exact hj)]
      by_cases d : b = j
      · rw [if_pos d, if_pos ⟨rfl, d⟩]
      · rw [if_neg d, if_neg fun w => d w.2]; exact h.val a ha b hb
    · rw [if_neg c, if_neg fun w => c w.1]; exact h.val a ha b hb
theorem Mx.congr {t : List (List Int)} {p q : Nat} {f g : Nat → Nat → Int} (h : Mx t p q f) (e : ∀ i, i < p → ∀ j, j < q → f i j = g i j) : Mx t p q g := ⟨h.len, h.row, fun i hi j hj => by rw [h.val i hi j hj, e i hi j hj]⟩
theorem Mx.ext {t u : List (List Int)} {p q : Nat} {f g : Nat → Nat → Int} (h : Mx t p q f) (k : Mx u p q g) (e : ∀ i, i < p → ∀ j, j < q → f i j = g i j) : t = u := by
  refine List.ext_getElem (by rw [h.len, k.len]) fun i h1 h2 => ?_
  have hi : i < p := by rw [← h.len]; exact h1
  have e1 : t.getD i [] = t[i] := by rw [List.getD_eq_getElem?_getD, List.getElem?_eq_getElem h1]; rfl
  have e2 : u.getD i [] = u[i] := by rw [List.getD_eq_getElem?_getD, List.getElem?_eq_getElem h2]; rfl
  rw [← e1, ← e2]
  refine list_ext_getD (by rw [h.row i hi, k.row i hi]) fun j hj => ?_
  rw [h.row i hi] at hj
  rw [h.val i hi j hj, k.val i hi j hj, e i hi j hj]

theorem bc_tab : ∀ a : Fin 9, ∀ k : Fin 9, bc a.val k.val ≤ 70 ∧ (a.val < k.val → bc a.val k.val = 0) ∧ (k.val < a.val → bc a.val k.val * (a.val - k.val) / (k.val + 1) = bc a.val (k.val + 1)) := by decide
theorem bc_le {a k : Nat} (ha : a ≤ 8) (hk : k ≤ 8) : bc a k ≤ 70 := (bc_tab ⟨a, by omega⟩ ⟨k, by omega⟩).1
theorem choose_ok {a i : Nat} (ha : a ≤ 8) (hi : i ≤ a) : tutte_choose a i = some ((bc a i : Nat) : Int) := by
  refine Gets.eq ?_
  unfold tutte_choose
  refine gBind (R := fun o => o = ((bc a i : Nat) : Int)) (gFor i (fun k (x : Int × Int) => x.2 = (k : Int) ∧ x.1 = ((bc a k : Nat) : Int)) (Nat.zero_le _) ⟨rfl, by cases a <;> rfl⟩ ?_) fun o ho => gSome ho
  rintro k ⟨_, _⟩ hk ⟨rfl, rfl⟩
  refine gIte (fun h1 => ?_) fun h1 => gSome (by have : k = i := (by omega); rw [this])
  have hk' : k < i := by omega
  obtain ⟨t1, _, t3⟩ := bc_tab ⟨a, by omega⟩ ⟨k, by omega⟩
  have t3 := t3 (by simp only; omega)
  simp only at t1 t3
  have hm := Nat.mul_le_mul t1 (show a - k ≤ 8 by omega)
  have e1 : (a : Int) - (k : Int) = ((a - k : Nat) : Int) := by omega
  have e2 : ((bc a k : Nat) : Int) * ((a - k : Nat) : Int) = ((bc a k * (a - k) : Nat) : Int) := by rw [Int.natCast_mul]
  have e3 : (k : Int) + 1 = ((k + 1 : Nat) : Int) := rfl
  have e4 : Int.tdiv ((bc a k * (a - k) : Nat) : Int) ((k + 1 : Nat) : Int) = ((bc a (k + 1) : Nat) : Int) := by rw [← t3]; rfl
  have hb := bc_le ha (show k + 1 ≤ 8 by omega)
  simp only [e1, e2, e3, e4]
  exact gChk (by omega) (gSome ⟨hk', by omega, rfl⟩)
theorem sg_two_mul (k : Nat) : sg (2 * k) = 1 := by unfold sg; rw [if_pos (by omega)]
theorem sg_add (a b : Nat) : sg (a + b) = sg a * sg b := by
  unfold sg
  rcases Nat.mod_two_eq_zero_or_one a with c | c <;> rcases Nat.mod_two_eq_zero_or_one b with d | d
  · rw [if_pos (by omega), if_pos c, if_pos d]; rfl
  · rw [if_neg (by omega), if_pos c, if_neg (by omega)]; rfl
  · rw [if_neg (by omega), if_neg (by omega), if_pos d]; rfl
  · rw [if_pos (by omega), if_neg (by omega), if_neg (by omega)]; rfl
theorem tc_big {a i : Nat} (ha : a ≤ 8) (hi : i ≤ 8) (h : a < i) : tc a i = 0 := by
  unfold tc
  rw [(bc_tab ⟨a, by omega⟩ ⟨i, by omega⟩).2.1 h]
  simp
theorem tc_mul {a b i j : Nat} (hi : i ≤ a) (hj : j ≤ b) : tc a i * tc b j = if (a - i + b - j) % 2 = 1 then -(((bc a i * bc b j : Nat) : Int)) else ((bc a i * bc b j : Nat) : Int) := by
  unfold tc
  have e : sg (a + i) * (bc a i : Nat) * (sg (b + j) * (bc b j : Nat)) = sg (a + i + (b + j)) * ((bc a i * bc b j : Nat) : Int) := by
    rw [sg_add (a + i) (b + j), Int.natCast_mul]
    simp only [Int.mul_assoc, Int.mul_left_comm]
  rw [e, show a + i + (b + j) = (a - i + b - j) + 2 * (i + j) by omega, sg_add, sg_two_mul, Int.mul_one]
  unfold sg
  rcases Nat.mod_two_eq_zero_or_one (a - i + b - j) with c | c
  · rw [if_pos c, if_neg (by omega), Int.one_mul]
  · rw [if_neg (by omega), if_pos c, Int.neg_mul, Int.one_mul]
theorem tc_le {a b i j : Nat} (ha : a ≤ 8) (hb : b ≤ 8) (hi : i ≤ 8) (hj : j ≤ 8) : -4900 ≤ tc a i * tc b j ∧ tc a i * tc b j ≤ 4900 := by
  have h1 := bc_le ha hi
  have h2 := bc_le hb hj
  have hm := Nat.mul_le_mul h1 h2
  rcases Nat.lt_or_ge a i with c | c
  · rw [tc_big ha hi c]; omega
  rcases Nat.lt_or_ge b j with d | d
  · rw [tc_big hb hj d]; omega
  rw [tc_mul c d]
  split <;> omega

theorem added_ok {a b p q : Nat} {t : List (List Int)} {f : Nat → Nat → Int} (h : Mx t p q f) (ha : a < p) (hb : b < q) (hp : p ≤ 9) (hq : q ≤ 9) (hf : ∀ i, i < p → ∀ j, j < q → -1099511627776 ≤ f i j ∧ f i j ≤ 1099511627776) :
    Gets (tutte_added a b t) (fun r => Mx r p q (fun i j => f i j + tc a i * tc b j)) := by
  unfold tutte_added
  refine gBind (R := fun r => Mx r p q (fun i j => f i j + tc a i * tc b j)) (gFor (a + 1) (fun k (x : List (List Int) × Int) => x.2 = (k : Int) ∧ Mx x.1 p q (fun i j => f i j + if i < k then tc a i * tc b j else 0)) (Nat.zero_le _) ⟨rfl, h.congr fun i _ j _ => by simp⟩ ?_) fun o ho => gSome ho
  rintro i ⟨t1, _⟩ hi ⟨rfl, h1⟩
  simp only at h1 ⊢
  refine gIte (fun c1 => ?_) fun c1 => gSome (h1.congr fun x hx y hy => ?_)
  · refine gBind (R := fun r => Mx r p q (fun x y => f x y + if x < i + 1 then tc a x * tc b y else 0)) (gFor (b + 1) (fun k (x : List (List Int) × Int) => x.2 = (k : Int) ∧ Mx x.1 p q (fun x y => f x y + if x < i ∨ x = i ∧ y < k then tc a x * tc b y else 0)) (Nat.zero_le _) ⟨rfl, h1.congr fun x _ y _ => by simp⟩ ?_) fun o ho => gChk (by omega) (gSome ⟨by omega, by omega, ho⟩)
    rintro j ⟨t2, _⟩ hj ⟨rfl, h2⟩
    simp only at h2 ⊢
    refine gIte (fun c2 => ?_) fun c2 => gSome (h2.congr fun x hx y hy => ?_)
    · have hi' : i ≤ a := by omega
      have hj' : j ≤ b := by omega
      refine gBindE (choose_ok (by omega) hi') (gBindE (choose_ok (by omega) hj') ?_)
      have m1 := bc_le (a := a) (k := i) (by omega) (by omega)
      have m2 := bc_le (a := b) (k := j) (by omega) (by omega)
      have hm := Nat.mul_le_mul m1 m2
      have e2 : ((bc a i : Nat) : Int) * ((bc b j : Nat) : Int) = ((bc a i * bc b j : Nat) : Int) := by rw [Int.natCast_mul]
      have em : Int.tmod ((a : Int) - i + b - j) 2 = (((a - i + b - j) % 2 : Nat) : Int) := by
        rw [show (a : Int) - i + b - j = ((a - i + b - j : Nat) : Int) by omega]; rfl
      have hv := h2.val i (by omega) j (by omega)
      rw [if_neg (by omega)] at hv
      have hfb := hf i (by omega) j (by omega)
      have hrow := h2.row i (by omega)
      have hlen := h2.len
      have hset := fun v => h2.set (i := i) (j := j) (by omega) (by omega) v
      have done : ∀ v : Int, v = f i j + tc a i * tc b j → Mx (t2.set i ((t2.getD i []).set j v)) p q (fun x y => f x y + if x < i ∨ x = i ∧ y < j + 1 then tc a x * tc b y else 0) := fun v hv => (hset v).congr fun x hx y hy => by
        by_cases c : x = i ∧ y = j
        · rw [if_pos c, c.1, c.2, if_pos (by omega), hv]
        · rw [if_neg c]
          congr 1
          by_cases d : x < i ∨ x = i ∧ y < j
          · rw [if_pos d, if_pos (by omega)]
          · rw [if_neg d, if_neg (by omega)]
      rw [e2, em]
      simp only [toNat_nat, hv]
      refine gChk (by omega) (gChk (by omega) (gIte (fun c3 => ?_) fun c3 => ?_))
      · refine gChk (by omega) (gChk ⟨by omega, by omega, by omega, by omega⟩ (gChk (by omega) (gSome ⟨by omega, by omega, done _ ?_⟩)))
        rw [tc_mul hi' hj', if_pos (by omega)]; omega
      · refine gChk ⟨by omega, by omega, by omega, by omega⟩ (gChk (by omega) (gSome ⟨by omega, by omega, done _ ?_⟩))
        rw [tc_mul hi' hj', if_neg (by omega)]; omega
    · have ej : j = b + 1 := by omega
      subst ej
      congr 1
      by_cases c : x < i + 1
      · rw [if_pos c]
        by_cases d : x < i ∨ x = i ∧ y < b + 1
        · rw [if_pos d]
        · rw [if_neg d, tc_big (a := b) (i := y) (by omega) (by omega) (by omega)]; simp
      · rw [if_neg c, if_neg (by omega)]
  · have ek : i = a + 1 := by omega
    subst ek
    by_cases c : x < a + 1
    · rw [if_pos c]
    · rw [if_neg c, tc_big (a := a) (i := x) (by omega) (by omega) (by omega)]; simp

/-- What a set gives to the polynomial. -/
def tS (m : Nat) (B : List Nat) (i j S : Nat) : Int := tc (rk m B (2 ^ m - 1) - rk m B S) i * tc (cnt m S - rk m B S) j
theorem sumN_absT (n : Nat) (g : Nat → Int) (c : Nat) (h : ∀ i, i < n → -(c : Int) ≤ g i ∧ g i ≤ (c : Int)) : -((n * c : Nat) : Int) ≤ sumN n g ∧ sumN n g ≤ ((n * c : Nat) : Int) := by
  induction n with
  | zero => simp [sumN]
  | succ n ih =>
    have := ih fun i hi => h i (by omega)
    have := h n (by omega)
    simp only [sumN]
    rw [Nat.succ_mul, Int.natCast_add]
    omega
theorem tutte_size_nat {a : Nat} (h : a < 256) : tutte_size (a : Int) = some ((size a : Nat) : Int) := by
  unfold tutte_size
  rw [chk_pos (by omega)]
  simp [bits_OnesCount, oc_size h]
section
variable {m : Nat} {B : List Nat} (h : Mat m B)
include h
theorem Mat.nul_le {S : Nat} (hS : S < 2 ^ m) : cnt m S - rk m B S ≤ m - rk m B (2 ^ m - 1) := by
  have h1 := h.rk_sub S (cpl m S)
  have h2 := h.rk_size (cpl m S)
  have h3 := cpl_cnt (m := m) (s := S)
  have e : S ||| cpl m S = 2 ^ m - 1 := bx fun i => by
    rw [Nat.testBit_or, cpl_bit, full_bit]
    cases q : S.testBit i
    · simp
    · simp [bit_lt hS q]
  rw [e] at h1
  omega
theorem Mat.rk_top {S : Nat} (hS : S < 2 ^ m) : rk m B S ≤ rk m B (2 ^ m - 1) := h.rk_mono fun i hi => by rw [full_bit]; simpa using bit_lt hS hi
theorem Mat.table_ok : Gets (tutte_table m (cs B)) (fun t => Mx t (rk m B (2 ^ m - 1) + 1) (m - rk m B (2 ^ m - 1) + 1) (fun i j => sumN (2 ^ m) (tS m B i j))) := by
  have h8 := h.m8
  have h256 := pow_le8 h8
  have hpos : 0 < 2 ^ m := Nat.pow_pos (by omega)
  have hR := h.rk_size (2 ^ m - 1)
  have hRm := cnt_le m (2 ^ m - 1)
  unfold tutte_table
  refine gBindE (axioms_Ranks_ok h) ?_
  simp only [cs_len, rkL_len]
  have e1 : (((2 ^ m : Nat) : Int) - 1).toNat = 2 ^ m - 1 := by omega
  have e2 : (cs (rkL m B)).getD (2 ^ m - 1) 0 = ((rk m B (2 ^ m - 1) : Nat) : Int) := by rw [cs_get, rkL_get m B (by omega)]
  generalize hRe : rk m B (2 ^ m - 1) = R at *
  simp only [e1, e2]
  have e3 : ((R : Int) + 1).toNat = R + 1 := rfl
  have e4 : ((m : Int) - (R : Int) + 1).toNat = m - R + 1 := by omega
  simp only [e3, e4]
  refine gChk (by omega) (gChk (by omega) ?_)
  refine gBind (R := fun o => Mx o (R + 1) (m - R + 1) (fun _ _ => 0)) (gFor (R + 1) (fun k (x : List (List Int) × Int) => x.2 = (k : Int) ∧ Mx x.1 k (m - R + 1) (fun _ _ => 0)) (Nat.zero_le _) ⟨rfl, ⟨rfl, fun i hi => absurd hi (Nat.not_lt_zero i), fun i hi => absurd hi (Nat.not_lt_zero i)⟩⟩ ?_) fun t0 ht0 => ?_
  · rintro k ⟨t1, _⟩ hk ⟨rfl, h1⟩
    simp only at h1 ⊢
    refine gIte (fun c => ?_) fun c => gSome (by have : k = R + 1 := (by omega); subst this; exact h1)
    refine gChk ⟨by omega, by omega, by omega, by omega, by omega⟩ (gChk (by rw [h1.len]; rfl) (gChk (by omega) (gSome ⟨by omega, by omega, ?_⟩)))
    have app : ∀ i, (t1 ++ [List.replicate (m - R + 1) (0 : Int)]).getD i [] = if i < k then t1.getD i [] else if i = k then List.replicate (m - R + 1) 0 else [] := fun i => by
      rw [List.getD_eq_getElem?_getD, List.getD_eq_getElem?_getD, List.getElem?_append, h1.len]
      by_cases d : i < k
      · rw [if_pos d, if_pos d]
      · rw [if_neg d, if_neg d]
        by_cases e : i = k
        · subst e; simp
        · rw [if_neg e, List.getElem?_eq_none (by simp; omega)]; rfl
    refine ⟨by simp [h1.len], fun i hi => ?_, fun i hi j hj => ?_⟩
    · rw [app]
      by_cases d : i < k
      · rw [if_pos d]; exact h1.row i d
      · rw [if_neg d, if_pos (by omega)]; simp
    · rw [app]
      by_cases d : i < k
      · rw [if_pos d]; exact h1.val i d j hj
      · rw [if_neg d, if_pos (by omega)]; simp [List.getD_eq_getElem?_getD, List.getElem?_replicate, hj]
  refine gChk (by rw [ht0.len]) ?_
  refine gBind (R := fun o => Mx o (R + 1) (m - R + 1) (fun i j => sumN (2 ^ m) (tS m B i j))) (gFor (2 ^ m) (fun k (x : List (List Int) × Int) => x.2 = (k : Int) ∧ Mx x.1 (R + 1) (m - R + 1) (fun i j => sumN k (tS m B i j))) (Nat.zero_le _) ⟨rfl, ht0⟩ ?_) fun o ho => gSome ho
  rintro S ⟨t1, _⟩ hS ⟨rfl, h1⟩
  simp only at h1 ⊢
  refine gIte (fun c => ?_) fun c => gSome (by have : S = 2 ^ m := (by omega); subst this; exact h1)
  have hS' : S < 2 ^ m := by omega
  have eS : (cs (rkL m B)).getD S 0 = ((rk m B S : Nat) : Int) := by rw [cs_get, rkL_get m B hS']
  have n1 := h.nul_le hS'
  have n2 := h.rk_top hS'
  have n3 := h.rk_size S
  rw [hRe] at n1 n2
  simp only [toNat_nat, eS]
  refine gChk (by omega) (gChk (by omega) ?_)
  rw [tutte_size_nat (by omega), size_of_lt hS' h8]
  simp only [Option.bind_some]
  have f1 : (R : Int) - ((rk m B S : Nat) : Int) = ((R - rk m B S : Nat) : Int) := by omega
  have f2 : ((cnt m S : Nat) : Int) - ((rk m B S : Nat) : Int) = ((cnt m S - rk m B S : Nat) : Int) := by omega
  rw [f1, f2]
  have hb8 : ∀ i j s, s < 2 ^ m → i < R + 1 → j < m - R + 1 → -((4900 : Nat) : Int) ≤ tS m B i j s ∧ tS m B i j s ≤ ((4900 : Nat) : Int) := fun i j s hs hi hj => by
    have k1 := h.nul_le hs
    have k2 := h.rk_top hs
    rw [hRe] at k1 k2
    unfold tS
    rw [hRe]
    exact tc_le (by omega) (by omega) (by omega) (by omega)
  refine gChk (by omega) (gBind (added_ok h1 (by omega) (by omega) (by omega) (by omega) fun i hi j hj => ?_) fun o ho => gChk (by rw [ho.len, h1.len]) (gChk (by omega) (gSome ⟨hS', by omega, ?_⟩)))
  · have := sumN_absT S (tS m B i j) 4900 fun s hs => hb8 i j s (by omega) hi hj
    have : S * 4900 ≤ 256 * 4900 := Nat.mul_le_mul_right _ (by omega)
    omega
  · refine ho.congr fun i _ j _ => ?_
    simp only [sumN]
    unfold tS
    rw [hRe]
theorem Mat.Poly_ok : Gets (tutte_Polynomial m (cs B)) (fun r => r.2 = 0 ∧ Mx r.1 (rk m B (2 ^ m - 1) + 1) (m - rk m B (2 ^ m - 1) + 1) (fun i j => sumN (2 ^ m) (tS m B i j))) := by
  unfold tutte_Polynomial
  rw [h.check]
  simp only [Option.bind_some]
  exact gIte (fun q => absurd rfl q) fun _ => gBind h.table_ok fun t ht => gSome ⟨rfl, ht⟩
end
theorem Poly_bad {n : Int} {l : List Int} {c : Int} (h : axioms_Check n l = some c) (h0 : c ≠ 0) : tutte_Polynomial n l = some ([], c) := by
  unfold tutte_Polynomial
  rw [h, Option.bind_some, if_pos h0]
end Go.SH
