/-
 Whole numbers as lists of words of 32 bits: what the program's sums, differences, products and comparisons of them say. Conditions: lists of less than a million words.
-/
import Derived.Test.YtlpikingpnenkaaSp
import Derived.Test.YtlpikingpnenkaaHK
set_option linter.unusedSimpArgs false
set_option linter.unusedVariables false
namespace Go.SH
open Go Go.AX
/-- The number that a list of words stands for. -/
def wv : List Int → Int
 | [] => 0
 | x :: r => x + 4294967296 * wv r
def wB (n : Nat) : Int := 4294967296 ^ n
def wok (l : List Int) : Prop := ∀ i, 0 ≤ l.getD i 0 ∧ l.getD i 0 < 4294967296
def wtr (l : List Int) : Prop := l = [] ∨ l.getD (l.length - 1) 0 ≠ 0
def Bwd (l : List Int) (n : Int) : Prop := wok l ∧ wtr l ∧ wv l = n
theorem wB0 : wB 0 = 1 := rfl
theorem wBs (n : Nat) : wB (n + 1) = 4294967296 * wB n := by unfold wB; rw [Int.pow_succ, Int.mul_comm]
theorem wB_pos (n : Nat) : 0 < wB n := Int.pow_pos (by omega)
theorem wB_mono {m n : Nat} (h : m ≤ n) : wB m ≤ wB n := by
 obtain ⟨k, rfl⟩ := Nat.exists_eq_add_of_le h
 induction k with
 | zero => exact Int.le_refl _
 | succ k ih =>
  have := ih (by omega)
  rw [← Nat.add_assoc, wBs]
  have := wB_pos (m + k); omega
theorem wB_add (m n : Nat) : wB (m + n) = wB m * wB n := by unfold wB; exact Int.pow_add ..
theorem wok_nil : wok [] := fun i => by simp
theorem wok_cons {x : Int} {r : List Int} : wok (x :: r) ↔ (0 ≤ x ∧ x < 4294967296) ∧ wok r := by
 constructor
 ·intro h; exact ⟨by simpa using h 0, fun i => by simpa using h (i + 1)⟩
 ·rintro ⟨h1, h2⟩ i
  cases i with
  | zero => simpa using h1
  | succ i => simpa using h2 i
theorem wok_set {l : List Int} (h : wok l) {i : Nat} {x : Int} (hx : 0 ≤ x ∧ x < 4294967296) : wok (l.set i x) := fun j => by
 have := h j
 simp only [List.getD_eq_getElem?_getD, List.getElem?_set] at this ⊢
 split
 ·split
  ·simpa using hx
  ·simp
 ·exact this
theorem wok_take {l : List Int} (h : wok l) (n : Nat) : wok (l.take n) := fun j => by
 have := h j
 simp only [List.getD_eq_getElem?_getD, List.getElem?_take] at this ⊢
 split
 ·exact this
 ·simp
theorem wok_rep (n : Nat) : wok (List.replicate n 0) := fun j => by
 simp only [List.getD_eq_getElem?_getD, List.getElem?_replicate]
 split <;> simp
theorem wv_rep (n : Nat) : wv (List.replicate n 0) = 0 := by
 induction n with
 | zero => rfl
 | succ n ih => rw [List.replicate_succ, wv, ih]; rfl
theorem wv_nn : ∀ {l : List Int}, wok l → 0 ≤ wv l ∧ wv l < wB l.length
 | [], _ => by simp [wv, wB]
 | x :: r, h => by
  obtain ⟨h1, h2⟩ := wok_cons.1 h
  have := wv_nn h2
  rw [wv, List.length_cons, wBs]; omega
theorem wv_split : ∀ (l : List Int) (i : Nat), wv l = wv (l.take i) + wB (min i l.length) * wv (l.drop i)
 | [], i => by simp [wv]
 | x :: r, 0 => by simp [wv, wB]
 | x :: r, i + 1 => by
  have := wv_split r i
  simp only [List.take_succ_cons, List.drop_succ_cons, List.length_cons, wv]
  rw [show min (i + 1) (r.length + 1) = min i r.length + 1 by omega, wBs]
  rw [this, Int.mul_add, Int.mul_assoc]; omega
theorem wv_step : ∀ (l : List Int) (i : Nat), wv (l.take (i + 1)) = wv (l.take i) + wB i * l.getD i 0
 | [], i => by simp [wv]
 | x :: r, 0 => by simp [wv, wB]
 | x :: r, i + 1 => by
  have := wv_step r i
  rw [List.take_succ_cons, List.take_succ_cons, wv, wv, this, wBs, List.getD_cons_succ, Int.mul_add, Int.mul_assoc]; omega
theorem wv_set_take (l : List Int) (i : Nat) (x : Int) : (l.set i x).take i = l.take i := by
 apply List.ext_getElem?
 intro j
 simp only [List.getElem?_take, List.getElem?_set]
 split
 ·rw [if_neg (by omega)]
 ·rfl
theorem getD_set_self {l : List Int} {i : Nat} (h : i < l.length) (x : Int) : (l.set i x).getD i 0 = x := by
 simp [List.getD_eq_getElem?_getD, List.getElem?_set, h]
theorem getD_set_ne {l : List Int} {i j : Nat} (h : i ≠ j) (x : Int) : (l.set i x).getD j 0 = l.getD j 0 := by
 simp [List.getD_eq_getElem?_getD, List.getElem?_set, h]
theorem getD_ge {l : List Int} {i : Nat} (h : l.length ≤ i) : l.getD i 0 = 0 := by
 simp [List.getD_eq_getElem?_getD, List.getElem?_eq_none h]
theorem wv_take_ge {l : List Int} {i : Nat} (h : l.length ≤ i) : wv (l.take i) = wv l := by rw [List.take_of_length_le h]
theorem wv_tr_lo {l : List Int} (h : wok l) (ht : wtr l) (hn : l ≠ []) : wB (l.length - 1) ≤ wv l := by
 have hl : 0 < l.length := List.length_pos_iff.2 hn
 have h1 := wv_step l (l.length - 1)
 rw [show l.length - 1 + 1 = l.length by omega, wv_take_ge (Nat.le_refl _)] at h1
 rcases ht with rfl | ht
 ·exact absurd rfl hn
 have h2 := (wv_nn (wok_take h (l.length - 1))).1
 have h3 := (h (l.length - 1)).1
 have h4 : 1 ≤ l.getD (l.length - 1) 0 := by omega
 have h5 := wB_pos (l.length - 1)
 generalize wB (l.length - 1) = P at *
 generalize l.getD (l.length - 1) 0 = d at *
 have : P * 1 ≤ P * d := Int.mul_le_mul_of_nonneg_left h4 (by omega)
 omega
theorem wv_zero {l : List Int} (h : wok l) (ht : wtr l) : wv l = 0 ↔ l = [] := by
 constructor
 ·intro h0
  rcases Classical.em (l = []) with c | c
  ·exact c
  ·have := wv_tr_lo h ht c
   have := wB_pos (l.length - 1); omega
 ·rintro rfl; rfl
theorem wv_len {a b : List Int} (ha : wok a) (hb : wok b) (htb : wtr b) (h : wv b ≤ wv a) : b.length ≤ a.length := by
 rcases Nat.lt_or_ge a.length b.length with c | c
 ·exfalso
  have h1 := (wv_nn ha).2
  have h2 := wv_tr_lo hb htb (by rintro rfl; simp at c)
  have h3 := wB_mono (show a.length ≤ b.length - 1 by omega)
  omega
 ·exact c
theorem wv_lenB {a : List Int} {n : Nat} (ha : wok a) (ht : wtr a) (h : wv a < wB n) : a.length ≤ n := by
 rcases Nat.lt_or_ge n a.length with c | c
 ·exfalso
  have h2 := wv_tr_lo ha ht (by rintro rfl; simp at c)
  have h3 := wB_mono (show n ≤ a.length - 1 by omega)
  omega
 ·exact c
theorem wrap32 (n : Int) : IntKind.wrap .u32 n = n % 4294967296 := by simp [IntKind.wrap, IntKind.bits, IntKind.signed]
theorem wrap64 (n : Int) : IntKind.wrap .u64 n = n % 18446744073709551616 := by simp [IntKind.wrap, IntKind.bits, IntKind.signed]
theorem trim_spec {a : List Int} (hw : wok a) (hl : a.length ≤ 1000000) : Gets (rotabig_trim a) (fun b => Bwd b (wv a) ∧ b.length ≤ a.length) := by
 unfold rotabig_trim
 refine gBind (R := fun n : Int => ∃ k : Nat, n = k ∧ k ≤ a.length ∧ wv (a.take k) = wv a ∧ (k = 0 ∨ a.getD (k - 1) 0 ≠ 0)) (gLoop (fun n : Int => ∃ k : Nat, n = k ∧ k ≤ a.length ∧ wv (a.take k) = wv a) (fun n => n.toNat) ⟨a.length, rfl, Nat.le_refl _, wv_take_ge (Nat.le_refl _)⟩ ?_) ?_
 ·rintro n ⟨k, rfl, hk, hv⟩
  refine gChk ⟨fun _ => by omega, fun _ => by omega⟩ (gIte (fun hc => gChk (by omega) (gSome ?_)) fun hc => gSome ?_)
  ·obtain ⟨h1, h2⟩ := hc
   refine ⟨⟨k - 1, by omega, by omega, ?_⟩, by show ((k : Int) - 1).toNat < ((k : Int)).toNat; omega⟩
   have e : ((k : Int) - 1).toNat = k - 1 := by omega
   rw [e] at h2
   have := wv_step a (k - 1)
   rw [show k - 1 + 1 = k by omega, h2, Int.mul_zero] at this
   omega
  ·refine ⟨k, rfl, hk, hv, ?_⟩
   rcases Nat.eq_zero_or_pos k with c | c
   ·exact .inl c
   ·right
    have e : ((k : Int) - 1).toNat = k - 1 := by omega
    rw [e] at hc
    exact fun q => hc ⟨by omega, q⟩
 ·rintro n ⟨k, rfl, hk, hv, ht⟩
  refine gChk ⟨by omega, by omega⟩ (gSome ⟨⟨wok_take hw _, ?_, ?_⟩, ?_⟩)
  ·rw [Int.toNat_natCast]
   rcases ht with rfl | ht
   ·exact .inl rfl
   ·rcases Nat.eq_zero_or_pos k with c | c
    ·subst c; exact .inl rfl
    right
    rw [List.length_take, Nat.min_eq_left hk]
    simp only [List.getD_eq_getElem?_getD, List.getElem?_take] at ht ⊢
    rw [if_pos (by omega)]; exact ht
  ·rw [Int.toNat_natCast]; exact hv
  ·simp; omega
theorem carry (P s : Int) : P * (s % 4294967296) + 4294967296 * P * (s / 4294967296) = P * s := by
 have h := Int.emod_add_mul_ediv s 4294967296
 generalize s % 4294967296 = x at *
 generalize s / 4294967296 = y at *
 subst h
 rw [Int.mul_add, Int.mul_comm 4294967296 P, Int.mul_assoc]
theorem add_spec {a b : List Int} (ha : wok a) (hb : wok b) (hla : a.length < 1000000) (hlb : b.length < 1000000) : Gets (rotabig_add a b) (fun r => Bwd r (wv a + wv b)) := by
 unfold rotabig_add
 refine gJoin (R := fun v : List Int × List Int => wok v.1 ∧ wok v.2 ∧ v.1.length < 1000000 ∧ v.2.length ≤ v.1.length ∧ wv v.1 + wv v.2 = wv a + wv b) ?_ ?_
 ·rintro ⟨a1, b1⟩ ⟨h1, h2, h3, h4, h5⟩
  simp only at h1 h2 h3 h4 h5 ⊢
  refine gChk ⟨by omega, by omega⟩ ?_
  refine gBind (R := fun q : List Int × Int => q.1.length = a1.length + 1 ∧ wok q.1 ∧ (0 ≤ q.2 ∧ q.2 ≤ 1) ∧ wv (q.1.take a1.length) + wB a1.length * q.2 = wv a1 + wv b1)
   (gFor a1.length (fun k (q : List Int × Int × Int) => q.1.length = a1.length + 1 ∧ wok q.1 ∧ (0 ≤ q.2.1 ∧ q.2.1 ≤ 1) ∧ q.2.2 = (k : Int) ∧ wv (q.1.take k) + wB k * q.2.1 = wv (a1.take k) + wv (b1.take k)) (k0 := 0) (Nat.zero_le _) ?_ ?_) ?_
  ·exact ⟨by simp, wok_rep _, ⟨Int.le_refl _, by show (0 : Int) ≤ 1; omega⟩, rfl, by simp [wv, wB]⟩
  ·rintro k ⟨r, c, i⟩ hk ⟨q1, q2, q3, q4, q5⟩
   simp only at q1 q2 q3 q4 q5 ⊢
   subst q4
   have A := h1 k
   have Bb := h2 k
   have sa := wv_step a1 k
   have sb := wv_step b1 k
   have key : ∀ s : Int, s = c + a1.getD k 0 + b1.getD k 0 → (r.set k (IntKind.wrap .u32 s)).length = a1.length + 1 ∧ wok (r.set k (IntKind.wrap .u32 s)) ∧ (0 ≤ s / 2 ^ 32 ∧ s / 2 ^ 32 ≤ 1) ∧ wv ((r.set k (IntKind.wrap .u32 s)).take (k + 1)) + wB (k + 1) * (s / 2 ^ 32) = wv (a1.take (k + 1)) + wv (b1.take (k + 1)) := fun s hs => by
    have hm : (2 : Int) ^ 32 = 4294967296 := rfl
    rw [hm]
    refine ⟨by simpa using q1, wok_set q2 (by rw [wrap32]; omega), by omega, ?_⟩
    have st := wv_step (r.set k (IntKind.wrap .u32 s)) k
    rw [wv_set_take, getD_set_self (by omega)] at st
    have cc := carry (wB k) s
    rw [st, wBs, sa, sb, wrap32]
    rw [hs] at cc ⊢
    rw [Int.mul_add, Int.mul_add] at cc
    omega
   refine gIte (fun hlt => gChk ⟨by omega, by rw [Int.toNat_natCast]; omega, by rw [Int.toNat_natCast]; omega⟩ (gIte (fun hlt2 => gChk ⟨by omega, by rw [Int.toNat_natCast]; omega, by rw [Int.toNat_natCast]; omega⟩ (gChk (by omega) (gSome ?_))) fun hge => gChk (by omega) (gSome ?_))) fun hge => gSome ?_
   ·simp only [Int.toNat_natCast]
    obtain ⟨k1, k2, k3, k4⟩ := key _ rfl
    exact ⟨by omega, k1, k2, k3, rfl, k4⟩
   ·simp only [Int.toNat_natCast]
    have hz : b1.getD k 0 = 0 := getD_ge (by omega)
    obtain ⟨k1, k2, k3, k4⟩ := key (c + a1.getD k 0) (by omega)
    exact ⟨by omega, k1, k2, k3, rfl, k4⟩
   ·have hkk : k = a1.length := by omega
    subst hkk
    rw [wv_take_ge (Nat.le_refl _), wv_take_ge h4] at q5
    exact ⟨q1, q2, q3, q5⟩
  ·rintro ⟨r, c⟩ ⟨q1, q2, q3, q4⟩
   simp only at q1 q2 q3 q4 ⊢
   refine gChk ⟨by omega, by omega⟩ ?_
   simp only [Int.toNat_natCast]
   have hw : IntKind.wrap .u32 c = c := by rw [wrap32]; omega
   rw [hw]
   have hv : wv (r.set a1.length c) = wv a + wv b := by
    have st := wv_step (r.set a1.length c) a1.length
    rw [wv_set_take, getD_set_self (by omega), wv_take_ge (by simp; omega)] at st
    omega
   refine gBind (trim_spec (wok_set q2 (by omega)) (by simp; omega)) fun y hy => gSome ?_
   rw [hv] at hy
   exact hy.1
 ·intro j hj
  refine gIte (fun c => hj _ ⟨hb, ha, hlb, by show a.length ≤ b.length; omega, by show wv b + wv a = _; omega⟩) fun c => hj _ ⟨ha, hb, hla, by show b.length ≤ a.length; omega, rfl⟩
theorem sub_spec {a b : List Int} (ha : wok a) (hb : wok b) (htb : wtr b) (hla : a.length < 1000000) (hle : wv b ≤ wv a) : Gets (rotabig_sub a b) (fun r => Bwd r (wv a - wv b)) := by
 unfold rotabig_sub
 have h4 := wv_len ha hb htb hle
 refine gChk (by omega) ?_
 refine gBind (R := fun q : List Int => q.length = a.length ∧ wok q ∧ ∃ c : Int, (0 ≤ c ∧ c ≤ 1) ∧ wv q = wv a - wv b + wB a.length * c)
  (gFor a.length (fun k (q : List Int × Int × Int) => q.1.length = a.length ∧ wok q.1 ∧ (0 ≤ q.2.1 ∧ q.2.1 ≤ 1) ∧ q.2.2 = (k : Int) ∧ wv (q.1.take k) = wv (a.take k) - wv (b.take k) + wB k * q.2.1) (k0 := 0) (Nat.zero_le _) ?_ ?_) ?_
 ·exact ⟨by simp, wok_rep _, ⟨Int.le_refl _, by show (0 : Int) ≤ 1; omega⟩, rfl, by simp [wv, wB]⟩
 ·rintro k ⟨r, c, i⟩ hk ⟨q1, q2, q3, q4, q5⟩
  simp only at q1 q2 q3 q4 q5 ⊢
  subst q4
  have A := ha k
  have Bb := hb k
  have sa := wv_step a k
  have sb := wv_step b k
  have key : k < a.length → ∀ d : Int, (d = a.getD k 0 - c - b.getD k 0 ∨ d = a.getD k 0 - c - b.getD k 0 + 18446744073709551616) → 0 ≤ d → d < 18446744073709551616 → (r.set k (IntKind.wrap .u32 d)).length = a.length ∧ wok (r.set k (IntKind.wrap .u32 d)) ∧ (0 ≤ d / 2 ^ 63 ∧ d / 2 ^ 63 ≤ 1) ∧ wv ((r.set k (IntKind.wrap .u32 d)).take (k + 1)) = wv (a.take (k + 1)) - wv (b.take (k + 1)) + wB (k + 1) * (d / 2 ^ 63) := fun hka d hd hd0 hd1 => by
   have hm : (2 : Int) ^ 63 = 9223372036854775808 := rfl
   rw [hm]
   refine ⟨by simpa using q1, wok_set q2 (by rw [wrap32]; omega), by omega, ?_⟩
   have st := wv_step (r.set k (IntKind.wrap .u32 d)) k
   rw [wv_set_take, getD_set_self (by omega)] at st
   rw [st, wBs, sa, sb, wrap32]
   have e : d % 4294967296 = a.getD k 0 - c - b.getD k 0 + 4294967296 * (d / 9223372036854775808) := by omega
   rw [e, q5]
   generalize d / 9223372036854775808 = z
   generalize a.getD k 0 = x
   generalize b.getD k 0 = y
   generalize wB k = P
   rw [Int.mul_add, Int.mul_sub, Int.mul_sub, ← Int.mul_assoc, Int.mul_comm P 4294967296]
   omega
  refine gIte (fun hlt => gChk ⟨by omega, by rw [Int.toNat_natCast]; omega⟩ (gIte (fun hlt2 => gChk ⟨by omega, by rw [Int.toNat_natCast]; omega⟩ (gChk (by omega) (gSome ?_))) fun hge => gChk (by omega) (gSome ?_))) fun hge => gSome ?_
  ·simp only [Int.toNat_natCast]
   obtain ⟨k1, k2, k3, k4⟩ := key (by omega) (IntKind.wrap .u64 ((IntKind.wrap .u64 ((a.getD k 0) - c)) - (b.getD k 0))) (by rw [wrap64, wrap64]; omega) (by rw [wrap64]; omega) (by rw [wrap64]; omega)
   exact ⟨by omega, k1, k2, k3, rfl, k4⟩
  ·simp only [Int.toNat_natCast]
   have hz : b.getD k 0 = 0 := getD_ge (by omega)
   obtain ⟨k1, k2, k3, k4⟩ := key (by omega) (IntKind.wrap .u64 ((a.getD k 0) - c)) (by rw [wrap64]; omega) (by rw [wrap64]; omega) (by rw [wrap64]; omega)
   exact ⟨by omega, k1, k2, k3, rfl, k4⟩
  ·have hkk : k = a.length := by omega
   subst hkk
   rw [wv_take_ge (Nat.le_refl _), wv_take_ge h4, wv_take_ge (by omega)] at q5
   exact ⟨q1, q2, c, q3, q5⟩
 ·rintro r ⟨q1, q2, c, q3, q4⟩
  have hc : c = 0 := by
   have h1 := (wv_nn q2).2
   rw [q1] at h1
   have h2 := wB_pos a.length
   rcases Classical.em (c = 0) with e | e
   ·exact e
   ·have : c = 1 := by omega
    subst this
    omega
  subst hc
  refine gBind (trim_spec q2 (by omega)) fun y hy => gSome ?_
  rw [q4, Int.mul_zero, Int.add_zero] at hy
  exact hy.1
theorem wv_lt {a b : List Int} (ha : wok a) (hb : wok b) {i : Nat} (hl : a.length = b.length) (hi : i < a.length) (he : ∀ j, i < j → a.getD j 0 = b.getD j 0) (hlt : a.getD i 0 < b.getD i 0) : wv a < wv b := by
 have hd : a.drop (i + 1) = b.drop (i + 1) := by
  apply List.ext_getElem?
  intro j
  have := he (i + 1 + j) (by omega)
  simp only [List.getElem?_drop, List.getD_eq_getElem?_getD] at this ⊢
  rcases Nat.lt_or_ge (i + 1 + j) a.length with c | c
  ·rw [List.getElem?_eq_getElem c, List.getElem?_eq_getElem (by omega)] at this ⊢
   simpa using this
  ·rw [List.getElem?_eq_none c, List.getElem?_eq_none (by omega)]
 have sa := wv_split a (i + 1)
 have sb := wv_split b (i + 1)
 rw [hd, hl] at sa
 have ta := wv_step a i
 have tb := wv_step b i
 have na := wv_nn (wok_take ha i)
 have nb := wv_nn (wok_take hb i)
 have hP : wB (a.take i).length ≤ wB i := wB_mono (by simp; omega)
 have hp := wB_pos i
 have hm : wB i * (a.getD i 0 + 1) ≤ wB i * b.getD i 0 := Int.mul_le_mul_of_nonneg_left (by omega) (by omega)
 rw [Int.mul_add, Int.mul_one] at hm
 omega
theorem cmp_spec {a b : List Int} (ha : wok a) (hb : wok b) (hta : wtr a) (htb : wtr b) (hla : a.length < 1000000) : Gets (rotabig_cmp a b) (fun r => r = if wv a < wv b then -1 else if wv a = wv b then 0 else 1) := by
 unfold rotabig_cmp
 refine gIte (fun hne => gIte (fun hlt => gSome ?_) fun hge => gSome ?_) fun heq => ?_
 ·have : wv a < wv b := by
   rcases Int.lt_or_le (wv a) (wv b) with c | c
   ·exact c
   ·have := wv_len ha hb htb c; omega
  rw [if_pos this]
 ·have : wv b < wv a := by
   rcases Int.lt_or_le (wv b) (wv a) with c | c
   ·exact c
   ·have := wv_len hb ha hta c; omega
  rw [if_neg (by omega), if_neg (by omega)]
 ·have hl : a.length = b.length := by omega
  refine gChk (by omega) ?_
  refine gBind (R := fun z : Unit ⊕ Int => (match z with | .inl _ => (0 : Int) | .inr r => r) = if wv a < wv b then -1 else if wv a = wv b then 0 else 1)
   (gLoop (fun i : Int => -1 ≤ i ∧ i < a.length ∧ ∀ j : Nat, i < j → a.getD j 0 = b.getD j 0) (fun i => (i + 1).toNat) ⟨by omega, by omega, fun j hj => by rw [getD_ge (by omega), getD_ge (by omega)]⟩ ?_) ?_
  ·rintro i ⟨h1, h2, h3⟩
   refine gIte (fun c => ?_) fun c => gSome ?_
   ·obtain ⟨k, rfl⟩ := Int.eq_ofNat_of_zero_le c
    refine gChk ⟨by omega, by omega⟩ (gIte (fun d => gChk ⟨by omega, by omega⟩ (gIte (fun e => gSome ?_) fun e => gSome ?_)) fun d => gChk (by omega) (gSome ⟨⟨by omega, by omega, fun j hj => ?_⟩, by show ((k : Int) - 1 + 1).toNat < ((k : Int) + 1).toNat; omega⟩))
    ·simp only [Int.toNat_natCast] at e
     have := wv_lt ha hb (i := k) hl (by omega) (fun j hj => h3 j (by omega)) e
     show (-1 : Int) = _
     rw [if_pos this]
    ·simp only [Int.toNat_natCast] at d e
     have := wv_lt hb ha (i := k) hl.symm (by omega) (fun j hj => (h3 j (by omega)).symm) (by omega)
     show (1 : Int) = _
     rw [if_neg (by omega), if_neg (by omega)]
    ·simp only [Int.toNat_natCast] at d
     rcases Classical.em (j = k) with e | e
     ·subst e; exact Classical.not_not.1 d
     ·exact h3 j (by omega)
   ·have : a = b := by
     apply List.ext_getElem hl
     intro j q1 q2
     have := h3 j (by omega)
     rw [List.getD_eq_getElem?_getD, List.getD_eq_getElem?_getD, List.getElem?_eq_getElem q1, List.getElem?_eq_getElem q2] at this
     simpa using this
    show (0 : Int) = _
    rw [this, if_neg (by omega), if_pos rfl]
  ·rintro (z | z) hz
   ·exact gSome hz
   ·exact gSome hz
theorem mul_spec {a b : List Int} (ha : wok a) (hb : wok b) (hla : a.length < 400000) (hlb : b.length < 400000) : Gets (rotabig_mul a b) (fun r => Bwd r (wv a * wv b)) := by
 unfold rotabig_mul
 refine gIte (fun h0 => gSome ⟨wok_nil, .inl rfl, ?_⟩) fun h0 => ?_
 ·rcases h0 with c | c
  ·have : a = [] := List.length_eq_zero_iff.1 (by omega)
   subst this; simp [wv]
  ·have : b = [] := List.length_eq_zero_iff.1 (by omega)
   subst this; simp [wv]
 ·refine gChk ⟨by omega, by omega⟩ ?_
  refine gBind (R := fun r : List Int => r.length = a.length + b.length ∧ wok r ∧ wv r = wv a * wv b)
   (gFor a.length (fun k (q : List Int × Int) => q.1.length = a.length + b.length ∧ wok q.1 ∧ q.2 = (k : Int) ∧ (∀ j, k + b.length ≤ j → q.1.getD j 0 = 0) ∧ wv (q.1.take (k + b.length)) = wv (a.take k) * wv b) (k0 := 0) (Nat.zero_le _) ?_ ?_) ?_
  ·refine ⟨by simp; omega, wok_rep _, rfl, fun j _ => ?_, ?_⟩
   ·simp only [List.getD_eq_getElem?_getD, List.getElem?_replicate]; split <;> rfl
   ·simp only [List.take_replicate, wv_rep, List.take_zero, wv, Int.zero_mul]
  ·rintro k ⟨r0, i⟩ hk ⟨q1, q2, q3, q4, q5⟩
   simp only at q1 q2 q3 q4 q5 ⊢
   subst q3
   refine gIte (fun hlt => ?_) fun hge => gSome ?_
   ·have hka : k < a.length := by omega
    have A := ha k
    refine gBind (R := fun q : List Int × Int => q.1.length = a.length + b.length ∧ wok q.1 ∧ (0 ≤ q.2 ∧ q.2 < 4294967296) ∧ (∀ j, k + b.length ≤ j → q.1.getD j 0 = 0) ∧ wv (q.1.take (k + b.length)) + wB (k + b.length) * q.2 = wv (r0.take (k + b.length)) + wB k * (a.getD k 0 * wv b))
     (gFor b.length (fun m (q : List Int × Int × Int) => q.1.length = a.length + b.length ∧ wok q.1 ∧ (0 ≤ q.2.1 ∧ q.2.1 < 4294967296) ∧ q.2.2 = (m : Int) ∧ (∀ j, k + m ≤ j → q.1.getD j 0 = r0.getD j 0) ∧ wv (q.1.take (k + m)) + wB (k + m) * q.2.1 = wv (r0.take (k + m)) + wB k * (a.getD k 0 * wv (b.take m))) (k0 := 0) (Nat.zero_le _) ?_ ?_) ?_
    ·exact ⟨q1, q2, ⟨Int.le_refl _, by show (0 : Int) < _; omega⟩, rfl, fun _ _ => rfl, by simp [wv]⟩
    ·rintro m ⟨r, c, j⟩ hm ⟨p1, p2, p3, p4, p5, p6⟩
     simp only at p1 p2 p3 p4 p5 p6 ⊢
     subst p4
     have Bb := hb m
     have R := p2 (k + m)
     have hmul : 0 ≤ a.getD k 0 * b.getD m 0 ∧ a.getD k 0 * b.getD m 0 ≤ 4294967295 * 4294967295 := by
      refine ⟨Int.mul_nonneg A.1 Bb.1, ?_⟩
      have h1 : a.getD k 0 * b.getD m 0 ≤ a.getD k 0 * 4294967295 := Int.mul_le_mul_of_nonneg_left (by omega) A.1
      have h2 : a.getD k 0 * 4294967295 ≤ 4294967295 * 4294967295 := Int.mul_le_mul_of_nonneg_right (by omega) (by omega)
      omega
     have e0 : ((k : Int) + (m : Int)).toNat = k + m := by omega
     refine gIte (fun hlt2 => ?_) fun hge2 => gSome ?_
     ·simp only [Int.toNat_natCast, e0]
      refine gChk ⟨by omega, by omega, by omega, by omega, by omega, by omega, by omega, by omega, by omega, by omega⟩ (gChk (by omega) (gChk (by omega) (gSome ?_)))
      have hmb : m < b.length := by omega
      have hm32 : (2 : Int) ^ 32 = 4294967296 := rfl
      rw [hm32]
      generalize hs : c + (a.getD k 0 * b.getD m 0 + r.getD (k + m) 0) = s
      refine ⟨by omega, by simpa using p1, wok_set p2 (by rw [wrap32]; omega), (show 0 ≤ s / 4294967296 ∧ s / 4294967296 < 4294967296 by omega), rfl, fun j hj => ?_, ?_⟩
      ·rw [getD_set_ne (by omega)]; exact p5 j (by omega)
      ·dsimp only
       have st := wv_step (r.set (k + m) (IntKind.wrap .u32 s)) (k + m)
       rw [wv_set_take, getD_set_self (by omega)] at st
       have cc := carry (wB (k + m)) s
       have sr := wv_step r0 (k + m)
       have sb := wv_step b m
       rw [← Nat.add_assoc, st, wBs, sr, sb, wrap32, ← p5 (k + m) (Nat.le_refl _)]
       have hw : wB k * wB m = wB (k + m) := (wB_add k m).symm
       have hx : wB k * (a.getD k 0 * (wv (b.take m) + wB m * b.getD m 0)) = wB k * (a.getD k 0 * wv (b.take m)) + wB (k + m) * (a.getD k 0 * b.getD m 0) := by
        rw [← hw, Int.mul_add, Int.mul_add]
        congr 1
        grind
       rw [hx]
       rw [← hs] at cc ⊢
       rw [Int.mul_add, Int.mul_add] at cc
       omega
     ·have hmm : m = b.length := by omega
      subst hmm
      refine ⟨p1, p2, p3, fun j hj => by rw [p5 j hj]; exact q4 j hj, ?_⟩
      rw [wv_take_ge (l := b) (Nat.le_refl _)] at p6
      exact p6
    ·rintro ⟨r, c⟩ ⟨p1, p2, p3, p4, p5⟩
     simp only at p1 p2 p3 p4 p5 ⊢
     have e0 : ((k : Int) + (b.length : Int)).toNat = k + b.length := by omega
     rw [e0]
     have hw : IntKind.wrap .u32 c = c := by rw [wrap32]; omega
     rw [hw]
     refine gChk (by omega) (gChk (by omega) (gSome ⟨hka, by simpa using p1, wok_set p2 p3, rfl, fun j hj => ?_, ?_⟩))
     ·rw [getD_set_ne (by omega)]; exact p4 j (by omega)
     ·have st := wv_step (r.set (k + b.length) c) (k + b.length)
      rw [wv_set_take, getD_set_self (by omega)] at st
      have sa := wv_step a k
      rw [show k + 1 + b.length = k + b.length + 1 by omega, st, sa, p5, q5, Int.add_mul, Int.mul_assoc]
   ·have hkk : k = a.length := by omega
    subst hkk
    rw [wv_take_ge (by omega), wv_take_ge (Nat.le_refl _)] at q5
    exact ⟨q1, q2, q5⟩
  ·rintro r ⟨q1, q2, q3⟩
   refine gBind (trim_spec q2 (by omega)) fun y hy => gSome ?_
   rw [q3] at hy
   exact hy.1
/-- A whole number by its sign and words. -/
def Bg (x : Bool × List Int) (n : Int) : Prop := wok x.2 ∧ wtr x.2 ∧ wv x.2 = (n.natAbs : Int) ∧ (x.1 = true ↔ n < 0)
theorem give_spec {s : Bool} {q : Bool × List Int} {l : List Int} {n : Int} (hl : wok l) (ht : wtr l) (hv : wv l = (n.natAbs : Int)) (hs : n ≠ 0 → (s = true ↔ n < 0)) : ∃ r, rotabig_Int_give s q l = some r ∧ Bg r n := by
 refine ⟨_, rfl, hl, ht, hv, ?_⟩
 have hz := wv_zero hl ht
 simp only [decide_eq_true_eq]
 constructor
 ·rintro ⟨h1, h2⟩
  refine (hs ?_).1 h1
  rintro rfl
  have := hz.1 (by simpa using hv)
  subst this; simp at h2
 ·intro h
  refine ⟨(hs (by omega)).2 h, ?_⟩
  rcases Nat.eq_zero_or_pos l.length with c | c
  ·have := List.length_eq_zero_iff.1 c
   subst this; simp [wv] at hv; omega
  ·omega
theorem words_spec {x : Int} (h0 : 0 ≤ x) (h1 : x < 18446744073709551616) : Gets (rotabig_words x) (fun r => Bwd r x) := by
 unfold rotabig_words
 refine gBind (trim_spec (a := [IntKind.wrap .u32 x, IntKind.wrap .u32 (x / 2 ^ 32)]) ?_ (by simp)) fun y hy => gSome ?_
 ·rw [wrap32, wrap32]
  exact wok_cons.2 ⟨by omega, wok_cons.2 ⟨by omega, wok_nil⟩⟩
 ·have : wv [IntKind.wrap .u32 x, IntKind.wrap .u32 (x / 2 ^ 32)] = x := by
   have hm : (2 : Int) ^ 32 = 4294967296 := rfl
   simp only [wv, wrap32, hm]; omega
  rw [this] at hy; exact hy.1
theorem newInt_spec {x : Int} (h0 : -9223372036854775808 ≤ x) (h1 : x < 9223372036854775808) : Gets (rotabig_NewInt x) (fun r => Bg r x) := by
 unfold rotabig_NewInt rotabig_Int_SetInt64
 refine gBind (R := fun r : Bool × List Int => Bg r x) (gJoin (R := fun u : Int => u = (x.natAbs : Int)) ?_ ?_) fun y hy => gSome hy
 ·rintro u rfl
  refine gBind (words_spec (x := (x.natAbs : Int)) (by omega) (by omega)) fun y hy => ?_
  obtain ⟨r, hr, hb⟩ := give_spec (s := decide (x < 0)) (q := (false, [])) (n := x) hy.1 hy.2.1 hy.2.2 (fun _ => by simp)
  exact gBindE hr (gSome hb)
 ·intro j hj
  refine gIte (fun c => hj _ ?_) fun c => hj _ ?_
  ·rw [wrap64, wrap64]; omega
  ·rw [wrap64]; omega
theorem mulI_spec {x y q0 : Bool × List Int} {m n : Int} (hx : Bg x m) (hy : Bg y n) (hlx : x.2.length < 400000) (hly : y.2.length < 400000) : Gets (rotabig_Int_Mul_r x.1 x.2 y.1 y.2 q0) (fun r => Bg r (m * n)) := by
 unfold rotabig_Int_Mul_r
 refine gBind (mul_spec hx.1 hy.1 hlx hly) fun z hz => ?_
 obtain ⟨h1, h2, h3⟩ := hz
 obtain ⟨r, hr, hb⟩ := give_spec (s := decide (¬ (x.1 = true ↔ y.1 = true))) (q := (q0.1, q0.2)) (n := m * n) h1 h2 (by rw [h3, hx.2.2.1, hy.2.2.1, Int.natAbs_mul]; simp) (fun hne => by
  simp only [decide_eq_true_eq]
  rw [hx.2.2.2, hy.2.2.2]
  have hm0 : m ≠ 0 := by rintro rfl; simp at hne
  have hn0 : n ≠ 0 := by rintro rfl; simp at hne
  rcases Int.lt_or_gt_of_ne hm0 with c | c <;> rcases Int.lt_or_gt_of_ne hn0 with d | d
  ·have := Int.mul_pos_of_neg_of_neg c d; simp [c, d]; omega
  ·have := Int.mul_neg_of_neg_of_pos c d; simp [c, this]; omega
  ·have := Int.mul_neg_of_pos_of_neg c d; simp [d, this]; omega
  ·have := Int.mul_pos c d
   constructor
   ·intro h; exact absurd ⟨fun _ => by omega, fun _ => by omega⟩ h
   ·intro h; omega)
 exact gBindE hr (gSome hb)
theorem sum_spec {x y : Bool × List Int} {m n : Int} (hx : Bg x m) (hy : Bg y n) (hlx : x.2.length < 400000) (hly : y.2.length < 400000) : Gets (rotabig_sum x.1 x.2 y.1 y.2) (fun r => Bwd r.2 ((m + n).natAbs : Int) ∧ (m + n ≠ 0 → (r.1 = true ↔ m + n < 0))) := by
 unfold rotabig_sum
 obtain ⟨x1, x2, x3, x4⟩ := hx
 obtain ⟨y1, y2, y3, y4⟩ := hy
 refine gIte (fun hs => ?_) fun hs => ?_
 ·refine gBind (add_spec x1 y1 (by omega) (by omega)) fun z hz => gSome ⟨?_, fun h => ?_⟩
  ·rw [x3, y3] at hz
   rw [x4, y4] at hs
   rw [show ((m + n).natAbs : Int) = (m.natAbs : Int) + (n.natAbs : Int) by omega]; exact hz
  ·rw [x4, y4] at hs
   show x.1 = true ↔ _
   rw [x4]; omega
 ·rw [x4, y4] at hs
  refine gBind (cmp_spec x1 y1 x2 y2 (by omega)) fun c hc => ?_
  rw [x3, y3] at hc
  refine gIte (fun h => ?_) fun h => ?_
  ·have hle : (n.natAbs : Int) ≤ m.natAbs := by
    rw [hc] at h
    split at h
    ·omega
    ·omega
   refine gBind (sub_spec x1 y1 y2 (by omega) (by rw [x3, y3]; exact hle)) fun z hz => gSome ⟨?_, fun h => ?_⟩
   ·rw [x3, y3] at hz
    rw [show ((m + n).natAbs : Int) = (m.natAbs : Int) - (n.natAbs : Int) by omega]; exact hz
   ·show x.1 = true ↔ _
    rw [x4]; omega
  ·have hle : (m.natAbs : Int) < n.natAbs := by
    rw [hc] at h
    split at h
    ·assumption
    ·split at h <;> omega
   refine gBind (sub_spec y1 x1 x2 (by omega) (by rw [x3, y3]; omega)) fun z hz => gSome ⟨?_, fun h => ?_⟩
   ·rw [x3, y3] at hz
    rw [show ((m + n).natAbs : Int) = (n.natAbs : Int) - (m.natAbs : Int) by omega]; exact hz
   ·show y.1 = true ↔ _
    rw [y4]; omega
theorem addI_spec {x y q0 : Bool × List Int} {m n : Int} (hx : Bg x m) (hy : Bg y n) (hlx : x.2.length < 400000) (hly : y.2.length < 400000) : Gets (rotabig_Int_Add_r x.1 x.2 y.1 y.2 q0) (fun r => Bg r (m + n)) := by
 unfold rotabig_Int_Add_r
 refine gBind (sum_spec hx hy hlx hly) fun z hz => ?_
 obtain ⟨⟨h1, h2, h3⟩, h4⟩ := hz
 obtain ⟨r, hr, hb⟩ := give_spec (s := z.1) (q := (q0.1, q0.2)) (n := m + n) h1 h2 h3 h4
 exact gBindE hr (gSome hb)
end Go.SH
