/-
  The numbers h, and their sum. Conditions: none.
-/
import Derived.Test.YtkjfccdfmjnkbaaLCa
set_option linter.unusedSimpArgs false
set_option linter.unusedVariables false
namespace Go.SH
open Go Go.AX

def bin : Nat → Nat → Nat
  | _, 0 => 1
  | 0, _ + 1 => 0
  | n + 1, k + 1 => bin n k + bin n (k + 1)
theorem bin_tab : ∀ a : Fin 9, ∀ v : Fin 9, v.val < a.val → bin a.val v.val * (a.val - v.val) = bin a.val (v.val + 1) * (v.val + 1) := by decide
theorem bin_le : ∀ a : Fin 9, ∀ v : Fin 10, bin a.val v.val ≤ 70 := by decide
theorem bin_alt : ∀ a : Fin 9, sumN (a.val + 1) (fun j => sg j * bin a.val j) = if a.val = 0 then 1 else 0 := by decide
theorem bin_self : ∀ a : Fin 9, bin a.val a.val = 1 := by decide
theorem choose_nat {a k : Nat} (ha : a ≤ 8) (hk : k ≤ a) : complex_choose (a : Int) (k : Int) = some ((bin a k : Nat) : Int) := by
  refine Gets.eq ?_
  unfold complex_choose
  refine gBind (R := fun o => o = ((bin a k : Nat) : Int)) (gFor k (fun v (x : Int × Int) => x.2 = (v : Int) ∧ x.1 = ((bin a v : Nat) : Int)) (Nat.zero_le _) ⟨rfl, by cases a <;> rfl⟩ ?_) fun o ho => gSome ho
  rintro v ⟨_, _⟩ hv ⟨rfl, rfl⟩
  simp only []
  refine gIte (fun h1 => ?_) fun h1 => gSome (by have e : v = k := (by omega); subst e; rfl)
  have hv' : v < k := by omega
  have t1 := bin_tab ⟨a, by omega⟩ ⟨v, by omega⟩ (by simp only; omega)
  have t2 := bin_le ⟨a, by omega⟩ ⟨v + 1, by omega⟩
  have t3 := bin_le ⟨a, by omega⟩ ⟨v, by omega⟩
  simp only at t1 t2 t3
  have e1 : (a : Int) - (v : Int) = ((a - v : Nat) : Int) := by omega
  have e2 : ((bin a v : Nat) : Int) * ((a : Int) - (v : Int)) = ((bin a (v + 1) : Nat) : Int) * ((v + 1 : Nat) : Int) := by
    rw [e1]; exact_mod_cast t1
  have e3 : (v : Int) + 1 = ((v + 1 : Nat) : Int) := by omega
  have e4 : Int.tdiv (((bin a v : Nat) : Int) * ((a : Int) - (v : Int))) ((v : Int) + 1) = ((bin a (v + 1) : Nat) : Int) := by
    rw [e2, e3]; exact Int.mul_tdiv_cancel _ (by omega)
  have e5 : ((bin a (v + 1) : Nat) : Int) * ((v + 1 : Nat) : Int) ≤ 70 * 9 := by
    have : bin a (v + 1) * (v + 1) ≤ 70 * 9 := Nat.mul_le_mul t2 (by omega)
    exact_mod_cast this
  have e6 : 0 ≤ ((bin a (v + 1) : Nat) : Int) * ((v + 1 : Nat) : Int) := by
    have : 0 ≤ bin a (v + 1) * (v + 1) := Nat.zero_le _
    exact_mod_cast this
  simp only [e4]
  exact gChk ⟨by omega, by rw [e2]; omega, by omega, by omega⟩ (gSome ⟨hv', by simp, rfl⟩)

def hT (m : Nat) (L : List Nat) (k i : Nat) : Int := sg (k - i) * ((fN m L i : Nat) * (bin (dimL m L - i) (k - i) : Nat))
def hN (m : Nat) (L : List Nat) (k : Nat) : Int := sumN (k + 1) (hT m L k)
def hL (m : Nat) (L : List Nat) : List Int := (List.range (dimL m L + 1)).map (hN m L)
theorem hL_len (m : Nat) (L : List Nat) : (hL m L).length = dimL m L + 1 := by simp [hL]
theorem hL_get {m : Nat} {L : List Nat} {k : Nat} (h : k < dimL m L + 1) : (hL m L).getD k 0 = hN m L k := by
  unfold hL
  rw [List.getD_eq_getElem?_getD, List.getElem?_map, List.getElem?_range h]; rfl
theorem hP_le {m : Nat} (h8 : m ≤ 8) (L : List Nat) {k i : Nat} (hk : k ≤ dimL m L) (hi : i ≤ k) : 0 ≤ ((fN m L i : Nat) : Int) * (bin (dimL m L - i) (k - i) : Nat) ∧ ((fN m L i : Nat) : Int) * (bin (dimL m L - i) (k - i) : Nat) ≤ 17920 := by
  have hd := dim_le m L
  have t := bin_le ⟨dimL m L - i, by omega⟩ ⟨k - i, by omega⟩
  have f := fN_le h8 L i
  have h1 : fN m L i * bin (dimL m L - i) (k - i) ≤ 256 * 70 := Nat.mul_le_mul f t
  constructor
  · exact Int.mul_nonneg (Int.natCast_nonneg _) (Int.natCast_nonneg _)
  · have h3 : ((fN m L i * bin (dimL m L - i) (k - i) : Nat) : Int) ≤ ((17920 : Nat) : Int) := Int.ofNat_le.2 h1
    rw [Int.natCast_mul] at h3
    exact h3
theorem hT_le {m : Nat} (h8 : m ≤ 8) (L : List Nat) {k i : Nat} (hk : k ≤ dimL m L) (hi : i ≤ k) : -17920 ≤ hT m L k i ∧ hT m L k i ≤ 17920 := by
  have h := hP_le h8 L hk hi
  unfold hT
  rcases sg_cases (k - i) with e | e <;> rw [e] <;> omega
theorem hpart_le {m : Nat} (h8 : m ≤ 8) (L : List Nat) {k i : Nat} (hk : k ≤ dimL m L) (hi : i ≤ k + 1) : -(i * 17920) ≤ sumN i (hT m L k) ∧ sumN i (hT m L k) ≤ i * 17920 := sumN_abs (n := i) (c := 17920) fun j hj => hT_le h8 L hk (by omega)
theorem H_ok {m : Nat} {L : List Nat} (h : Cx m L) : complex_H m (cs L) = some (hL m L, 0) := by
  have h8 := h.m8
  have hd := dim_le m L
  refine Gets.eq ?_
  unfold complex_H
  refine gBindE (F_ok h) (gIte (fun q => absurd rfl q) fun _ => ?_)
  have e1 : (((((dimL m L + 1 : Nat)) : Int) - 1) + 1).toNat = dimL m L + 1 := by omega
  simp only [cs_len, fL_len]
  rw [e1]
  simp only [List.length_replicate]
  refine gChk (by omega) (gChk (by omega) ?_)
  refine gBind (R := fun o => o = hL m L) (gFor (dimL m L + 1) (fun k (x : List Int × Int) => x.2 = (k : Int) ∧ x.1.length = dimL m L + 1 ∧ ∀ j, j < dimL m L + 1 → x.1.getD j 0 = if j < k then hN m L j else 0) (Nat.zero_le _) ⟨rfl, by simp, fun j hj => by
    rw [List.getD_eq_getElem?_getD, List.getElem?_replicate]; simp [hj]⟩ ?_) fun o ho => gSome (by rw [ho])
  rintro k ⟨v, _⟩ hk ⟨rfl, i1, i2⟩
  simp only at i1 i2 ⊢
  refine gIte (fun h1 => ?_) fun h1 => gSome ?_
  · have hk' : k < dimL m L + 1 := by omega
    refine gBind (R := fun o => o.length = dimL m L + 1 ∧ ∀ j, j < dimL m L + 1 → o.getD j 0 = if j < k + 1 then hN m L j else 0) (gFor (k + 1) (fun i (x : List Int × Int) => x.2 = (i : Int) ∧ x.1.length = dimL m L + 1 ∧ x.1.getD k 0 = sumN i (hT m L k) ∧ ∀ j, j < dimL m L + 1 → j ≠ k → x.1.getD j 0 = if j < k then hN m L j else 0) (Nat.zero_le _) ⟨rfl, i1, by rw [i2 k hk', if_neg (by omega)]; rfl, fun j hj _ => i2 j hj⟩ ?_) fun o ho => gSome ⟨hk', by simp, ho.1, ho.2⟩
    rintro i ⟨u, _⟩ hi ⟨rfl, u1, u2, u3⟩
    simp only at u1 u2 u3 ⊢
    refine gIte (fun h2 => ?_) fun h2 => gSome ⟨u1, fun j hj => ?_⟩
    · have hi' : i ≤ k := by omega
      have ed : ((((dimL m L + 1 : Nat)) : Int) - 1) - (i : Int) = ((dimL m L - i : Nat) : Int) := by omega
      have ek : (k : Int) - (i : Int) = ((k - i : Nat) : Int) := by omega
      simp only [toNat_nat, cs_get, ed, ek, fL_get (show i < dimL m L + 1 by omega)]
      rw [choose_nat (by omega) (by omega)]
      simp only [Option.bind_some]
      have b1 := hP_le h8 L (show k ≤ dimL m L by omega) hi'
      have b2 := hpart_le h8 L (show k ≤ dimL m L by omega) (show i ≤ k + 1 by omega)
      have b3 : (i : Int) * 17920 ≤ 9 * 17920 := Int.mul_le_mul_of_nonneg_right (by omega) (by omega)
      have e2 : ((k - i : Nat) : Int).tmod 2 = (((k - i) % 2 : Nat) : Int) := tmod_two _
      have keep : ∀ w : Int, w = hT m L k i → (k < k + 1 + 0) → (u.set k (sumN i (hT m L k) + w)).length = dimL m L + 1 ∧ (u.set k (sumN i (hT m L k) + w)).getD k 0 = sumN (i + 1) (hT m L k) ∧ ∀ j, j < dimL m L + 1 → j ≠ k → (u.set k (sumN i (hT m L k) + w)).getD j 0 = if j < k then hN m L j else 0 := fun w hw _ => by
        refine ⟨by simp [u1], by rw [set_getD _ (by omega), if_pos rfl, hw]; rfl, fun j hj hne => by rw [set_getD _ (by omega), if_neg hne]; exact u3 j hj hne⟩
      simp only [u2, e2]
      generalize hP : ((fN m L i : Nat) : Int) * (bin (dimL m L - i) (k - i) : Nat) = p at *
      refine gChk (by omega) (gChk (by omega) (gChk (by omega) (gIte (fun q => gChk (by omega) (gChk (by omega) (gSome ⟨by omega, by simp, ?_⟩))) fun q => gChk (by omega) (gSome ⟨by omega, by simp, ?_⟩))))
      · exact keep (-p) (by unfold hT sg; rw [hP, if_neg (by omega)]; omega) (by omega)
      · exact keep p (by unfold hT sg; rw [hP, if_pos (by omega)]; omega) (by omega)
    · have e : i = k + 1 := by omega
      subst e
      by_cases c : j = k
      · subst c; rw [if_pos (by omega), u2]; rfl
      · rw [u3 j hj c]
        by_cases c2 : j < k
        · rw [if_pos c2, if_pos (by omega)]
        · rw [if_neg c2, if_neg (by omega)]
  · have e : k = dimL m L + 1 := by omega
    subst e
    refine list_ext_getD (by rw [i1, hL_len]) fun j hj => ?_
    rw [i1] at hj
    rw [i2 j hj, if_pos hj, hL_get hj]

/-! ### what they come to -/
theorem sumN_from (i d : Nat) (g : Nat → Int) (h : i ≤ d) : sumN (d + 1) (fun k => if i ≤ k then g (k - i) else 0) = sumN (d - i + 1) g := by
  have e : d + 1 = i + (d - i + 1) := by omega
  rw [e, sumN_split]
  have h1 : sumN i (fun k => if i ≤ k then g (k - i) else 0) = 0 := by
    rw [sumN_congr (h := fun _ => (0 : Int)) fun k hk => if_neg (by omega), sumN_zero]
  rw [h1, Int.zero_add]
  exact sumN_congr fun k _ => by rw [if_pos (by omega)]; congr 1; omega
theorem sumN_upto (k d : Nat) (g : Nat → Int) (h : k ≤ d) : sumN (d + 1) (fun i => if i ≤ k then g i else 0) = sumN (k + 1) g := by
  have e : d + 1 = (k + 1) + (d - k) := by omega
  rw [e, sumN_split]
  have h1 : sumN (d - k) (fun i => if k + 1 + i ≤ k then g (k + 1 + i) else 0) = 0 := by
    rw [sumN_congr (h := fun _ => (0 : Int)) fun i hi => if_neg (by omega), sumN_zero]
  rw [h1, Int.add_zero]
  exact sumN_congr fun i hi => by rw [if_pos (by omega)]
theorem h_sum {m : Nat} (h8 : m ≤ 8) (L : List Nat) : sumN (dimL m L + 1) (hN m L) = fN m L (dimL m L) := by
  have hd := dim_le m L
  have e1 : ∀ k, k < dimL m L + 1 → hN m L k = sumN (dimL m L + 1) (fun i => if i ≤ k then hT m L k i else 0) := fun k hk => (sumN_upto k (dimL m L) (hT m L k) (by omega)).symm
  rw [sumN_congr e1, sumN_swap]
  have e2 : ∀ i, i < dimL m L + 1 → sumN (dimL m L + 1) (fun k => if i ≤ k then hT m L k i else 0) = if i = dimL m L then ((fN m L (dimL m L) : Nat) : Int) else 0 := fun i hi => by
    have e3 : ∀ k, k < dimL m L + 1 → (if i ≤ k then hT m L k i else 0) = if i ≤ k then (fun j => ((fN m L i : Nat) : Int) * (sg j * (bin (dimL m L - i) j : Nat))) (k - i) else 0 := fun k _ => by
      split
      · unfold hT; simp only [← Int.mul_assoc]; rw [Int.mul_comm (sg (k - i))]
      · rfl
    refine (sumN_congr e3).trans ((sumN_from i (dimL m L) (fun j => ((fN m L i : Nat) : Int) * (sg j * (bin (dimL m L - i) j : Nat))) (by omega)).trans ?_)
    rw [sumN_mul, bin_alt ⟨dimL m L - i, by omega⟩]
    by_cases c : i = dimL m L
    · subst c; rw [if_pos rfl, if_pos (by simp), Int.mul_one]
    · rw [if_neg c, if_neg (by simp only; omega), Int.mul_zero]
  rw [sumN_congr e2, sumN_single _ _ _ (by omega)]
theorem h_zero (m : Nat) (L : List Nat) : hN m L 0 = fN m L 0 := by
  unfold hN hT
  simp only [sumN]
  have : bin (dimL m L - 0) (0 - 0) = 1 := by cases dimL m L <;> rfl
  rw [this]
  simp [sg]
theorem h_last {m : Nat} (h8 : m ≤ 8) (L : List Nat) : hN m L (dimL m L) = eul m L * sg (dimL m L) := by
  have hd := dim_le m L
  unfold hN eul
  rw [Int.mul_comm, ← sumN_mul]
  refine sumN_congr fun i hi => ?_
  unfold hT
  rw [bin_self ⟨dimL m L - i, by omega⟩]
  have : sg (dimL m L - i) = sg (dimL m L) * sg i := by
    unfold sg
    rcases Nat.mod_two_eq_zero_or_one (dimL m L) with a | a <;> rcases Nat.mod_two_eq_zero_or_one i with b | b
    · rw [if_pos (by omega), if_pos a, if_pos b]; rfl
    · rw [if_neg (by omega), if_pos a, if_neg (by omega)]; rfl
    · rw [if_neg (by omega), if_neg (by omega), if_pos b]; rfl
    · rw [if_pos (by omega), if_neg (by omega), if_neg (by omega)]; rfl
  rw [this, Int.mul_assoc]
  simp
theorem Cx.f_zero {m : Nat} {L : List Nat} (h : Cx m L) : fN m L 0 = 1 := by
  have hpos : 0 < 2 ^ m := Nat.pow_pos (by omega)
  have key : ∀ s, s < 2 ^ m → cnt m s = 0 → s = 0 := fun s hs hc => by
    rcases Nat.decEq s 0 with c | c
    · obtain ⟨i, hi⟩ := exists_bit c
      have := cnt_pos hs hi; omega
    · exact c
  have hf : Face L 0 := by
    cases hL : L with
    | nil => exact absurd hL h.ne
    | cons f r => exact ⟨f, by simp, inc_zero f⟩
  have e : ((fN m L 0 : Nat) : Int) = 1 := by
    unfold fN facesL
    rw [List.countP_filter, ← sumN_countP', sumN_congr (h := fun s => if s = 0 then (1 : Int) else 0) fun s hs => ?_, sumN_single _ _ _ hpos]
    by_cases c : s = 0
    · subst c; rw [if_pos (by simp [cnt_zero, hf]), if_pos rfl]
    · rw [if_neg (by simp only [Bool.and_eq_true, decide_eq_true_eq]; exact fun q => c (key s hs q.1)), if_neg c]
  omega
where
  sumN_countP' (p : Nat → Bool) : ∀ n, sumN n (fun s => if p s = true then 1 else 0) = (((List.range n).countP p : Nat) : Int)
  | 0 => rfl
  | n + 1 => by
    simp only [sumN]
    rw [sumN_countP' p n, List.range_succ, List.countP_append, List.countP_cons, List.countP_nil]
    cases p n <;> simp
end Go.SH
