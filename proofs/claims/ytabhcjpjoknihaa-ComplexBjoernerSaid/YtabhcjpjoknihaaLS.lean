/-
  Plain functions that may have no answer: what they give ('Gets'), loops by what holds in them; sets as numbers. Finite sums, sets as numbers, how many elements they have. What the functions of package sets and of the library give that are asked everywhere: families, search in a list that rises, elements of a set one by one.  Conditions: none.
-/
import Derived.Test.YtabhcjpjoknihaaAxN
import Derived.Test.YtabhcjpjoknihaaSp
import Derived.KernelRfl


set_option linter.unusedSimpArgs false
set_option linter.unusedVariables false
namespace Go.SH
open Go Go.AX Go.RowKit

section
variable {α β σ ρ κ : Type}
/-- It has an answer, and of the answer this holds. -/
def Gets (x : Option α) (Q : α → Prop) : Prop := ∃ a, x = some a ∧ Q a
theorem Gets.of_eq {x : Option α} {a : α} (h : x = some a) : Gets x (fun b => b = a) := ⟨a, h, rfl⟩
theorem Gets.eq {x : Option α} {a : α} (h : Gets x (fun b => b = a)) : x = some a := by obtain ⟨b, h1, rfl⟩ := h; exact h1
theorem Gets.mono {x : Option α} {Q R : α → Prop} (h : Gets x Q) (hq : ∀ a, Q a → R a) : Gets x R := by obtain ⟨b, h1, h2⟩ := h; exact ⟨b, h1, hq b h2⟩
theorem Gets.get {x : Option α} {Q : α → Prop} (h : Gets x Q) {a : α} (ha : x = some a) : Q a := by obtain ⟨b, h1, h2⟩ := h; rw [ha] at h1; cases h1; exact h2
theorem Gets.and {x : Option α} {Q R : α → Prop} (h : Gets x Q) (h' : Gets x R) : Gets x (fun a => Q a ∧ R a) := by
  obtain ⟨b, h1, h2⟩ := h; exact ⟨b, h1, h2, h'.get h1⟩
theorem gSome {a : α} {Q : α → Prop} (h : Q a) : Gets (some a) Q := ⟨a, rfl, h⟩
theorem gChk {c : Prop} [Decidable c] {x : Option α} {Q : α → Prop} (hc : c) (h : Gets x Q) : Gets (chk c x) Q := by rw [chk_pos hc]; exact h
theorem gIte {c : Prop} [Decidable c] {x y : Option α} {Q : α → Prop} (h1 : c → Gets x Q) (h2 : ¬ c → Gets y Q) : Gets (if c then x else y) Q := by
  by_cases h : c
  · rw [if_pos h]; exact h1 h
  · rw [if_neg h]; exact h2 h
theorem gBind {x : Option α} {f : α → Option β} {R : α → Prop} {Q : β → Prop} (h : Gets x R) (h2 : ∀ a, R a → Gets (f a) Q) : Gets (x.bind f) Q := by
  obtain ⟨a, rfl, ha⟩ := h; exact h2 a ha
theorem gBindE {x : Option α} {f : α → Option β} {a : α} {Q : β → Prop} (h : x = some a) (h2 : Gets (f a) Q) : Gets (x.bind f) Q := by subst h; exact h2
theorem gJoin {y : κ → Option α} {x : (κ → Option α) → Option α} {Q : α → Prop} {R : κ → Prop} (hy : ∀ v, R v → Gets (y v) Q) (hx : ∀ j : κ → Option α, (∀ v, R v → Gets (j v) Q) → Gets (x j) Q) : Gets (joinM y x) Q := hx y hy

/-- What holds behind a round. -/
def Rnd (I : σ → Prop) (μ : σ → Nat) (s : σ) (Q : ρ → Prop) : σ ⊕ ρ → Prop
  | .inl s' => I s' ∧ μ s' < μ s
  | .inr r => Q r
theorem gLoop (I : σ → Prop) (μ : σ → Nat) {f : σ → Option (σ ⊕ ρ)} {Q : ρ → Prop} {s0 : σ} (h0 : I s0) (h : ∀ s, I s → Gets (f s) (Rnd I μ s Q)) : Gets (loopM f s0) Q := by
  have key : ∀ (m : Nat) (s : σ), μ s = m → I s → Gets (loopM f s) Q := by
    intro m
    induction m using Nat.strongRecOn with
    | ind m ih =>
      intro s hm hI
      obtain ⟨b, h1, h2⟩ := h s hI
      cases b with
      | inr r => exact ⟨r, loopM_inr h1, h2⟩
      | inl s' =>
        rw [loopM_inl h1]
        exact ih (μ s') (by have := h2.2; omega) s' rfl h2.1
  exact key _ _ rfl h0
/-- A loop that counts from k on: its states by the count. -/
theorem gFor (N : Nat) (S : Nat → σ → Prop) {f : σ → Option (σ ⊕ ρ)} {Q : ρ → Prop} {s0 : σ} {k0 : Nat} (hk : k0 ≤ N) (h0 : S k0 s0) (h : ∀ k s, k ≤ N → S k s → Gets (f s) (fun b => match b with | .inl s' => k < N ∧ S (k + 1) s' | .inr r => Q r)) : Gets (loopM f s0) Q := by
  have key : ∀ (m k : Nat) (s : σ), N - k = m → k ≤ N → S k s → Gets (loopM f s) Q := by
    intro m
    induction m with
    | zero =>
      intro k s hm hk hS
      obtain ⟨b, h1, h2⟩ := h k s hk hS
      cases b with
      | inr r => exact ⟨r, loopM_inr h1, h2⟩
      | inl s' => have := h2.1; omega
    | succ m ih =>
      intro k s hm hk hS
      obtain ⟨b, h1, h2⟩ := h k s hk hS
      cases b with
      | inr r => exact ⟨r, loopM_inr h1, h2⟩
      | inl s' =>
        rw [loopM_inl h1]
        exact ih (k + 1) s' (by omega) (by have := h2.1; omega) h2.2
  exact key _ _ _ rfl hk h0
/-- What is known of the arguments may be used. -/
theorem Pure_of_facts {P : Program} {f : FuncId} {args : List AVal} {r : AVal} {H : List Blk} (h : factL1 args → Pure P f args r H) : Pure P f args r H := by
  intro w F vs hag hlen hargs
  refine h (factL1_of fun i x hx => ?_) w F vs hag hlen hargs
  have hi : i < vs.size := by
    rw [← hlen]
    rcases Nat.lt_or_ge i args.length with q | q
    · exact q
    · rw [List.getElem?_eq_none q] at hx; cases hx
  exact fact1_rep (hargs i x _ hx (Array.getElem?_eq_getElem hi))
end

/-! ### numbers as sets -/
theorem shl_nat (i : Nat) : (2 : Int) ^ ((i : Int)).toNat = ((2 ^ i : Nat) : Int) := by simp
theorem shl_nat' (i : Nat) : (2 : Int) ^ i = ((2 ^ i : Nat) : Int) := by simp
theorem shr_nat (a i : Nat) : (a : Int) / 2 ^ ((i : Int)).toNat = ((a / 2 ^ i : Nat) : Int) := by simp
theorem shr_nat' (a i : Nat) : (a : Int) / 2 ^ i = ((a / 2 ^ i : Nat) : Int) := by simp
theorem bit_nat (a i : Nat) : iand ((a : Int) / 2 ^ ((i : Int)).toNat) 1 = if a.testBit i then 1 else 0 := by
  rw [shr_nat, show (1 : Int) = ((1 : Nat) : Int) from rfl, iand_nn, Nat.and_one_is_mod]
  have := Nat.testBit_eq_decide_div_mod_eq (x := a) (i := i)
  rw [this]
  by_cases h : a / 2 ^ i % 2 = 1
  · simp [h]
  · have : a / 2 ^ i % 2 = 0 := by omega
    simp [this]
theorem and_nat (a b : Nat) : iand (a : Int) (b : Int) = ((a &&& b : Nat) : Int) := rfl
theorem or_nat (a b : Nat) : ior (a : Int) (b : Int) = ((a ||| b : Nat) : Int) := ior_nn a b
/-- a without b. -/
def dif (a b : Nat) : Nat := a ^^^ (a &&& b)
theorem dif_nat (a b : Nat) : iandnot (a : Int) (b : Int) = ((dif a b : Nat) : Int) := iandnot_nn a b
theorem testBit_dif (a b i : Nat) : (dif a b).testBit i = (a.testBit i && !b.testBit i) := by
  unfold dif; rw [Nat.testBit_xor, Nat.testBit_and]; cases a.testBit i <;> cases b.testBit i <;> rfl
theorem xor_nat (a b : Nat) : ixor (a : Int) (b : Int) = ((a ^^^ b : Nat) : Int) := ixor_nn a b
theorem toNat_nat (a : Nat) : ((a : Int)).toNat = a := rfl
theorem or_lt {a b n : Nat} (ha : a < 2 ^ n) (hb : b < 2 ^ n) : a ||| b < 2 ^ n := Nat.or_lt_two_pow ha hb
theorem pow_lt {i n : Nat} (h : i < n) : 2 ^ i < 2 ^ n := Nat.pow_lt_pow_right (by omega) h
theorem dif_lt {a b n : Nat} (ha : a < 2 ^ n) : dif a b < 2 ^ n := Nat.xor_lt_two_pow ha (Nat.lt_of_le_of_lt Nat.and_le_left ha)
theorem and_lt {a b n : Nat} (ha : a < 2 ^ n) : a &&& b < 2 ^ n := Nat.lt_of_le_of_lt Nat.and_le_left ha
theorem pow_le8 {n : Nat} (h : n ≤ 8) : 2 ^ n ≤ 256 := Nat.pow_le_pow_right (by omega) h
end Go.SH

set_option linter.unusedSimpArgs false
set_option linter.unusedVariables false
namespace Go.SH
open Go Go.AX

/-- g 0 + .. + g (n - 1). -/
def sumN : Nat → (Nat → Int) → Int
  | 0, _ => 0
  | n + 1, g => sumN n g + g n
theorem sumN_congr {n : Nat} {g h : Nat → Int} (e : ∀ i, i < n → g i = h i) : sumN n g = sumN n h := by
  induction n with
  | zero => rfl
  | succ n ih => simp only [sumN]; rw [ih fun i hi => e i (by omega), e n (by omega)]
theorem sumN_le {n : Nat} {g h : Nat → Int} (e : ∀ i, i < n → g i ≤ h i) : sumN n g ≤ sumN n h := by
  induction n with
  | zero => exact Int.le_refl _
  | succ n ih =>
    simp only [sumN]
    have := ih fun i hi => e i (by omega)
    have := e n (by omega)
    omega
theorem sumN_add (n : Nat) (g h : Nat → Int) : sumN n (fun i => g i + h i) = sumN n g + sumN n h := by
  induction n with
  | zero => rfl
  | succ n ih => simp only [sumN]; rw [ih]; omega
theorem sumN_zero (n : Nat) : sumN n (fun _ => 0) = 0 := by
  induction n with
  | zero => rfl
  | succ n ih => simp only [sumN]; rw [ih]; rfl
theorem sumN_mul (n : Nat) (c : Int) (g : Nat → Int) : sumN n (fun i => c * g i) = c * sumN n g := by
  induction n with
  | zero => simp [sumN]
  | succ n ih => simp only [sumN]; rw [ih, Int.mul_add]
theorem sumN_single (n i : Nat) (v : Int) (h : i < n) : sumN n (fun j => if j = i then v else 0) = v := by
  induction n with
  | zero => omega
  | succ n ih =>
    simp only [sumN]
    rcases Nat.lt_or_ge i n with q | q
    · rw [ih q, if_neg (by omega)]; omega
    · have : i = n := by omega
      subst this
      rw [if_pos rfl, sumN_congr (h := fun _ => 0) fun j hj => if_neg (by omega), sumN_zero]; omega
/-- One place more. -/
theorem sumN_upd {n i : Nat} {g h : Nat → Int} {v : Int} (hi : i < n) (e : ∀ j, j < n → h j = g j + if j = i then v else 0) : sumN n h = sumN n g + v := by
  rw [sumN_congr e, sumN_add, sumN_single n i v hi]
theorem sumN_swap (n m : Nat) (g : Nat → Nat → Int) : sumN n (fun i => sumN m (fun j => g i j)) = sumN m (fun j => sumN n (fun i => g i j)) := by
  induction n with
  | zero => simp only [sumN]; exact (sumN_zero m).symm
  | succ n ih => simp only [sumN]; rw [ih, ← sumN_add]

/-- How many of the first m elements a set has. -/
def cnt : Nat → Nat → Nat
  | 0, _ => 0
  | m + 1, s => cnt m s + if s.testBit m then 1 else 0
/-- How many elements a set has (of eight). -/
def size (s : Nat) : Nat := cnt 8 s
theorem cnt_le (m s : Nat) : cnt m s ≤ m := by
  induction m with
  | zero => exact Nat.le_refl _
  | succ m ih => simp only [cnt]; split <;> omega
theorem cnt_congr {m s t : Nat} (h : ∀ i, i < m → s.testBit i = t.testBit i) : cnt m s = cnt m t := by
  induction m with
  | zero => rfl
  | succ m ih => simp only [cnt]; rw [ih fun i hi => h i (by omega), h m (by omega)]
theorem cnt_mono {m s t : Nat} (h : ∀ i, i < m → s.testBit i = true → t.testBit i = true) : cnt m s ≤ cnt m t := by
  induction m with
  | zero => exact Nat.le_refl _
  | succ m ih =>
    simp only [cnt]
    have := ih fun i hi => h i (by omega)
    have := h m (by omega)
    split <;> split <;> simp_all <;> omega
theorem cnt_eq_of_sub {m s t : Nat} (h : ∀ i, i < m → s.testBit i = true → t.testBit i = true) (hc : cnt m t ≤ cnt m s) : ∀ i, i < m → t.testBit i = s.testBit i := by
  induction m with
  | zero => intro i hi; omega
  | succ m ih =>
    simp only [cnt] at hc
    have h1 := cnt_mono (m := m) fun i hi => h i (by omega)
    have h2 := h m (by omega)
    have h3 : t.testBit m = s.testBit m := by
      cases ht : t.testBit m <;> cases hs : s.testBit m <;> simp_all <;> omega
    intro i hi
    rcases Nat.lt_or_ge i m with q | q
    · exact ih (fun i hi => h i (by omega)) (by rw [h3] at hc; omega) i q
    · have : i = m := by omega
      subst this; exact h3
theorem cnt_zero (m : Nat) : cnt m 0 = 0 := by
  induction m with
  | zero => rfl
  | succ m ih => simp [cnt, ih]
theorem testBit_pow (i j : Nat) : (2 ^ i).testBit j = decide (i = j) := Nat.testBit_two_pow
theorem cnt_add {m s : Nat} {i : Nat} (hi : i < m) (h : s.testBit i = false) : cnt m (s ||| 2 ^ i) = cnt m s + 1 := by
  induction m with
  | zero => omega
  | succ m ih =>
    simp only [cnt, Nat.testBit_or, testBit_pow]
    rcases Nat.lt_or_ge i m with q | q
    · rw [ih q]
      have : decide (i = m) = false := by simp; omega
      rw [this, Bool.or_false]; omega
    · have : i = m := by omega
      subst this
      have e : cnt i (s ||| 2 ^ i) = cnt i s := cnt_congr fun j hj => by
        rw [Nat.testBit_or, testBit_pow]
        have : decide (i = j) = false := by simp; omega
        rw [this, Bool.or_false]
      rw [e, h]; simp
theorem cnt_full {m s : Nat} (h : cnt m s = m) : ∀ i, i < m → s.testBit i = true := by
  induction m with
  | zero => intro i hi; omega
  | succ m ih =>
    simp only [cnt] at h
    have := cnt_le m s
    intro i hi
    by_cases hm : s.testBit m = true
    · rw [if_pos hm] at h
      rcases Nat.lt_or_ge i m with q | q
      · exact ih (by omega) i q
      · have : i = m := by omega
        subst this; exact hm
    · rw [if_neg hm] at h; omega
theorem bit_lt {s m i : Nat} (hs : s < 2 ^ m) (h : s.testBit i = true) : i < m := by
  rcases Nat.lt_or_ge i m with q | q
  · exact q
  · have := Nat.testBit_lt_two_pow (i := i) (Nat.lt_of_lt_of_le hs (Nat.pow_le_pow_right (by omega) q))
    rw [this] at h; cases h
theorem bit_ge {s m i : Nat} (hs : s < 2 ^ m) (h : m ≤ i) : s.testBit i = false := by
  cases hb : s.testBit i
  · rfl
  · have := bit_lt hs hb; omega
theorem lt_of_bits {s m : Nat} (h : ∀ i, m ≤ i → s.testBit i = false) : s < 2 ^ m := by
  rcases Nat.lt_or_ge s (2 ^ m) with q | q
  · exact q
  · obtain ⟨i, h1, h2⟩ := Nat.exists_ge_and_testBit_of_ge_two_pow q
    rw [h i h1] at h2; cases h2
theorem set_ext {m s t : Nat} (hs : s < 2 ^ m) (ht : t < 2 ^ m) (h : ∀ i, i < m → s.testBit i = t.testBit i) : s = t := by
  apply Nat.eq_of_testBit_eq
  intro i
  rcases Nat.lt_or_ge i m with q | q
  · exact h i q
  · rw [bit_ge hs q, bit_ge ht q]
theorem cnt_of_lt {m k s : Nat} (hs : s < 2 ^ m) (hk : m ≤ k) : cnt k s = cnt m s := by
  induction k with
  | zero => have : m = 0 := by omega
            subst this; rfl
  | succ k ih =>
    rcases Nat.lt_or_ge m (k + 1) with q | q
    · simp only [cnt]; rw [ih (by omega), bit_ge hs (by omega)]; simp
    · have : m = k + 1 := by omega
      rw [this]
theorem size_of_lt {m s : Nat} (hs : s < 2 ^ m) (hm : m ≤ 8) : size s = cnt m s := cnt_of_lt hs hm
/-- The numbers of the set's places, added. -/
def wsum (m : Nat) (g : Nat → Int) (s : Nat) : Int := sumN m fun i => if s.testBit i then g i else 0
theorem wsum_add {m i : Nat} {g : Nat → Int} {s : Nat} (hi : i < m) (h : s.testBit i = false) : wsum m g (s ||| 2 ^ i) = wsum m g s + g i := by
  refine sumN_upd (i := i) hi fun j hj => ?_
  rw [Nat.testBit_or, testBit_pow]
  by_cases e : i = j
  · subst e; simp [h]
  · have : decide (i = j) = false := by simp [e]
    rw [this, Bool.or_false, if_neg (show ¬ j = i from fun e' => e e'.symm)]; omega
theorem bit_cases (s i : Nat) (h : s &&& 2 ^ i = 0) : s.testBit i = false := by
  have := congrArg (fun x => Nat.testBit x i) h
  simp only [Nat.testBit_and, testBit_pow, decide_true, Bool.and_true, Nat.zero_testBit] at this
  exact this
theorem disj_iff (s t : Nat) : s &&& t = 0 ↔ ∀ i, s.testBit i = true → t.testBit i = false := by
  constructor
  · intro h i hs
    have := congrArg (fun x => Nat.testBit x i) h
    simp only [Nat.testBit_and, Nat.zero_testBit, hs, Bool.true_and] at this
    exact this
  · intro h
    apply Nat.eq_of_testBit_eq; intro i
    rw [Nat.testBit_and, Nat.zero_testBit]
    cases hs : s.testBit i
    · rfl
    · rw [h i hs]; rfl
/-- Within. -/
def Inc (s t : Nat) : Prop := ∀ i, s.testBit i = true → t.testBit i = true
theorem sub_iff_and (s t : Nat) : s &&& t = s ↔ Inc s t := by
  constructor
  · intro h i hs
    have := congrArg (fun x => Nat.testBit x i) h
    simp only [Nat.testBit_and, hs, Bool.true_and] at this
    exact this
  · intro h
    apply Nat.eq_of_testBit_eq; intro i
    rw [Nat.testBit_and]
    cases hs : s.testBit i
    · rfl
    · rw [h i hs]; rfl
theorem sub_iff_dif (s t : Nat) : dif s t = 0 ↔ Inc s t := by
  constructor
  · intro h i hs
    have := congrArg (fun x => Nat.testBit x i) h
    simp only [testBit_dif, hs, Bool.true_and, Nat.zero_testBit] at this
    cases ht : t.testBit i
    · rw [ht] at this; cases this
    · rfl
  · intro h
    apply Nat.eq_of_testBit_eq; intro i
    rw [testBit_dif, Nat.zero_testBit]
    cases hs : s.testBit i
    · rfl
    · rw [h i hs]; rfl
/-- A set grows element by element. -/
theorem set_ind {m : Nat} (p : Nat → Prop) (h0 : p 0) (h : ∀ s i, s < 2 ^ m → i < m → s.testBit i = false → p s → p (s ||| 2 ^ i)) : ∀ s, s < 2 ^ m → p s := by
  have key : ∀ k s, s < 2 ^ k → k ≤ m → p s := by
    intro k
    induction k with
    | zero => intro s hs _; have : s = 0 := by omega
              subst this; exact h0
    | succ k ih =>
      intro s hs hk
      by_cases hb : s.testBit k = true
      · let t := dif s (2 ^ k)
        have ht : t < 2 ^ k := lt_of_bits fun i hi => by
          show (dif s (2 ^ k)).testBit i = false
          rw [testBit_dif, testBit_pow]
          rcases Nat.lt_or_ge i (k + 1) with q | q
          · have : k = i := by omega
            subst this; simp
          · rw [bit_ge hs q]; rfl
        have e : s = t ||| 2 ^ k := by
          apply Nat.eq_of_testBit_eq; intro i
          rw [Nat.testBit_or, testBit_pow]
          show _ = ((dif s (2 ^ k)).testBit i || _)
          rw [testBit_dif, testBit_pow]
          by_cases q : k = i
          · subst q; simp [hb]
          · simp [q]
        rw [e]
        exact h t k (Nat.lt_of_lt_of_le ht (Nat.pow_le_pow_right (by omega) (by omega))) (by omega) (bit_ge ht (Nat.le_refl _)) (ih t ht (by omega))
      · refine ih s (lt_of_bits fun i hi => ?_) (by omega)
        rcases Nat.lt_or_ge i (k + 1) with q | q
        · have : k = i := by omega
          subst this; simpa using hb
        · exact bit_ge hs q
  exact fun s hs => key m s hs (Nat.le_refl _)

theorem dif_self_pow {s i j : Nat} (h : s.testBit j = true) (hij : i ≠ j) : (dif s (2 ^ i)).testBit j = true := by
  rw [testBit_dif, testBit_pow, h]; simp [hij]

theorem dif_or {c i : Nat} (h1 : c.testBit i = true) : dif c (2 ^ i) ||| 2 ^ i = c := by
  apply Nat.eq_of_testBit_eq; intro j
  rw [Nat.testBit_or, testBit_dif, testBit_pow]
  by_cases e : i = j
  · subst e; simp [h1]
  · simp [e]
theorem cnt_dif {m c i : Nat} (hc : c < 2 ^ m) (h1 : c.testBit i = true) : cnt m c = cnt m (dif c (2 ^ i)) + 1 := by
  have := cnt_add (m := m) (s := dif c (2 ^ i)) (bit_lt hc h1) (by rw [testBit_dif, testBit_pow]; simp)
  rwa [dif_or h1] at this
theorem cnt_pos {m c i : Nat} (hc : c < 2 ^ m) (h1 : c.testBit i = true) : 0 < cnt m c := by have := cnt_dif hc h1; omega
theorem exists_bit {c : Nat} (h : c ≠ 0) : ∃ i, c.testBit i = true := by
  rcases Classical.em (∃ i, c.testBit i = true) with q | q
  · exact q
  · exfalso; apply h
    apply Nat.eq_of_testBit_eq; intro i
    rw [Nat.zero_testBit]
    cases hb : c.testBit i
    · rfl
    · exact absurd ⟨i, hb⟩ q

theorem bool_ne {b : Bool} (h : ¬ b = true) : b = false := by cases b <;> simp_all
theorem or_eq_iff (s t : Nat) : s ||| t = t ↔ Inc s t := by
  constructor
  · intro h i hs
    rw [← h, Nat.testBit_or, hs]; rfl
  · intro h
    apply Nat.eq_of_testBit_eq; intro i
    rw [Nat.testBit_or]
    cases hs : s.testBit i
    · rfl
    · rw [h i hs]; rfl
theorem Inc.trans {a b c : Nat} (h : Inc a b) (k : Inc b c) : Inc a c := fun i hi => k i (h i hi)
theorem Inc.antisymm {a b : Nat} (h : Inc a b) (k : Inc b a) : a = b := by
  apply Nat.eq_of_testBit_eq; intro i
  rw [Bool.eq_iff_iff]; exact ⟨h i, k i⟩
instance instIncDec (a b : Nat) : Decidable (Inc a b) := decidable_of_iff (a &&& b = a) (sub_iff_and a b)
end Go.SH

set_option linter.unusedSimpArgs false
set_option linter.unusedVariables false
namespace Go.SH
open Go Go.AX

theorem step_all {p : Nat → Prop} {k : Nat} (h1 : ∀ j, j < k → p j) (h2 : p k) : ∀ j, j < k + 1 → p j := fun j hj => by
  rcases Nat.lt_or_ge j k with q | q
  · exact h1 j q
  · have : j = k := by omega
    subst this; exact h2
theorem none_all {p : Nat → Prop} : ∀ j, j < 0 → p j := fun j hj => absurd hj (Nat.not_lt_zero j)

/-- A list of sets, as numbers of the program's. -/
def cs (L : List Nat) : List Int := L.map Nat.cast
@[simp] theorem cs_len (L : List Nat) : (cs L).length = L.length := by simp [cs]
theorem cs_get (L : List Nat) (k : Nat) : (cs L).getD k 0 = ((L.getD k 0 : Nat) : Int) := by
  simp only [cs, List.getD_eq_getElem?_getD, List.getElem?_map]
  cases L[k]? <;> simp
theorem cs_app (L : List Nat) (a : Nat) : cs L ++ [(a : Int)] = cs (L ++ [a]) := by simp [cs]
theorem cs_inj {L K : List Nat} (h : cs L = cs K) : L = K := by
  have := congrArg (List.map Int.toNat) h
  simpa [cs, Function.comp_def] using this
theorem cs_of {l : List Int} (h : ∀ k, k < l.length → 0 ≤ l.getD k 0) : l = cs (l.map Int.toNat) := by
  apply List.ext_getElem? ; intro i
  simp only [cs, List.map_map, List.getElem?_map]
  cases hi : l[i]? with
  | none => rfl
  | some x =>
    have hlt := (List.getElem?_eq_some_iff.1 hi).1
    have := h i hlt
    rw [List.getD_eq_getElem?_getD, hi] at this
    simp only [Option.getD_some] at this
    simp only [Option.map_some, Function.comp_apply, Option.some.injEq]; omega
theorem cs_mem (L : List Nat) (a : Nat) : (a : Int) ∈ cs L ↔ a ∈ L := by
  simp only [cs, List.mem_map]
  constructor
  · rintro ⟨b, h, e⟩; have : b = a := by omega
    rwa [← this]
  · intro h; exact ⟨a, h, rfl⟩
theorem mem_getD {L : List Nat} {a : Nat} : a ∈ L ↔ ∃ k, k < L.length ∧ L.getD k 0 = a := by
  rw [List.mem_iff_getElem?]
  constructor
  · rintro ⟨i, hi⟩
    exact ⟨i, (List.getElem?_eq_some_iff.1 hi).1, by rw [List.getD_eq_getElem?_getD, hi]; rfl⟩
  · rintro ⟨k, h1, h2⟩
    refine ⟨k, ?_⟩
    rw [List.getElem?_eq_getElem h1]
    rw [List.getD_eq_getElem?_getD, List.getElem?_eq_getElem h1] at h2
    exact congrArg some h2

/-- It rises. -/
def Rise (l : List Int) : Prop := ∀ i j, i < j → j < l.length → l.getD i 0 < l.getD j 0
/-- A family: sets of m elements, rising. -/
structure Fam (m : Nat) (L : List Nat) : Prop where
  m8 : m ≤ 8
  lt : ∀ s, s ∈ L → s < 2 ^ m
  rise : ∀ i j, i < j → j < L.length → L.getD i 0 < L.getD j 0
theorem Fam.Rise {m : Nat} {L : List Nat} (h : Fam m L) : Rise (cs L) := fun i j hij hj => by
  rw [cs_get, cs_get]; have := h.rise i j hij (by simpa using hj); omega
theorem Fam.ge {m : Nat} {L : List Nat} (h : Fam m L) : ∀ k, k < L.length → k ≤ L.getD k 0 := fun k => by
  induction k with
  | zero => intro _; exact Nat.zero_le _
  | succ k ih => intro hk; have := ih (by omega); have := h.rise k (k + 1) (by omega) hk; omega
theorem Fam.len {m : Nat} {L : List Nat} (h : Fam m L) : L.length ≤ 256 := by
  rcases Nat.eq_zero_or_pos L.length with q | q
  · omega
  · have h1 := h.ge (L.length - 1) (by omega)
    have h2 := h.lt _ (mem_getD.2 ⟨L.length - 1, by omega, rfl⟩)
    have := pow_le8 h.m8
    omega
theorem Fam.ext {m n : Nat} {L K : List Nat} (h : Fam m L) (h' : Fam n K) (e : ∀ s, s ∈ L ↔ s ∈ K) : L = K := by
  have sorted : ∀ {m : Nat} {L : List Nat}, Fam m L → L.Pairwise (· < ·) := fun {m L} h => by
    rw [List.pairwise_iff_getElem]
    intro i j hi hj hij
    have := h.rise i j hij hj
    simpa [List.getD_eq_getElem?_getD, List.getElem?_eq_getElem hi, List.getElem?_eq_getElem hj] using this
  have s1 := sorted h
  have s2 := sorted h'
  clear h h'
  induction L generalizing K with
  | nil =>
    cases K with
    | nil => rfl
    | cons b K => exact absurd ((e b).2 (by simp)) (by simp)
  | cons a L ih =>
    cases K with
    | nil => exact absurd ((e a).1 (by simp)) (by simp)
    | cons b K =>
      rw [List.pairwise_cons] at s1 s2
      have hab : a = b := by
        rcases List.mem_cons.1 ((e a).1 (by simp)) with q | q
        · exact q
        · rcases List.mem_cons.1 ((e b).2 (by simp)) with r | r
          · exact r.symm
          · have := s1.1 b r; have := s2.1 a q; omega
      subst hab
      rw [ih (fun s => ?_) s1.2 s2.2]
      constructor
      · intro hs
        rcases List.mem_cons.1 ((e s).1 (by simp [hs])) with q | q
        · subst q; have := s1.1 s hs; omega
        · exact q
      · intro hs
        rcases List.mem_cons.1 ((e s).2 (by simp [hs])) with q | q
        · subst q; have := s2.1 s hs; omega
        · exact q

theorem sets_Family_spec (n : Int) (l : List Int) (hl : l.length ≤ 9223372036854775807) : Gets (sets_Family n l) (fun r => (r = 0 ∧ ∃ m L, n = (m : Nat) ∧ l = cs L ∧ Fam m L) ∨ (r = 1 ∧ ¬ ∃ m L, n = (m : Nat) ∧ l = cs L ∧ Fam m L)) := by
  unfold sets_Family
  refine gIte (fun h => gSome (.inr ⟨rfl, ?_⟩)) fun h => ?_
  · rintro ⟨m, L, rfl, rfl, hf⟩
    have := hf.m8; omega
  · obtain ⟨m, rfl⟩ := Int.eq_ofNat_of_zero_le (show 0 ≤ n by omega)
    refine gBind (R := fun z => match z with | .inl _ => ∀ k, k < l.length → 0 ≤ l.getD k 0 ∧ l.getD k 0 < ((2 ^ m : Nat) : Int) ∧ (0 < k → l.getD (k - 1) 0 < l.getD k 0) | .inr r => r = 1 ∧ ¬ ∀ k, k < l.length → 0 ≤ l.getD k 0 ∧ l.getD k 0 < ((2 ^ m : Nat) : Int) ∧ (0 < k → l.getD (k - 1) 0 < l.getD k 0))
      (gFor l.length (fun k v => v = (k : Int) ∧ ∀ j, j < k → 0 ≤ l.getD j 0 ∧ l.getD j 0 < ((2 ^ m : Nat) : Int) ∧ (0 < j → l.getD (j - 1) 0 < l.getD j 0)) (Nat.zero_le _) ⟨rfl, none_all⟩ ?_) ?_
    · rintro k _ hk ⟨rfl, hb⟩
      refine gIte (fun h1 => gChk (by omega) ?_) fun h1 => gSome fun j hj => hb j (by omega)
      have e : ((k : Int) - 1).toNat = k - 1 := by omega
      simp only [toNat_nat, shl_nat', e]
      refine gChk (by omega) (gIte (fun h2 => gSome ⟨rfl, fun h3 => ?_⟩) fun h2 => gSome ⟨by omega, by simp, step_all hb (by omega)⟩)
      have := h3 k (by omega)
      omega
    · rintro (u | rr) hz
      · refine gSome (.inl ⟨rfl, m, l.map Int.toNat, rfl, cs_of fun k hk => (hz k hk).1, by omega, fun s hs => ?_, fun i j hij hj => ?_⟩)
        · obtain ⟨k, h1, h2⟩ := mem_getD.1 hs
          rw [cs_of fun k hk => (hz k hk).1] at hz
          have := (hz k (by simpa using h1)).2.1
          rw [cs_get, h2] at this; omega
        · have hcs := cs_of fun k hk => (hz k hk).1
          have key : ∀ d i, i + d + 1 < l.length → l.getD i 0 < l.getD (i + d + 1) 0 := fun d => by
            induction d with
            | zero => intro i hi; exact (hz (i + 1) hi).2.2 (by omega)
            | succ d ih => intro i hi; have := ih i (by omega); have := (hz (i + (d + 1) + 1) hi).2.2 (by omega); rw [show i + (d + 1) + 1 - 1 = i + d + 1 by omega] at this; omega
          have := key (j - i - 1) i (by simp at hj; omega)
          rw [show i + (j - i - 1) + 1 = j by omega, hcs, cs_get, cs_get] at this
          omega
      · refine gSome (.inr ⟨hz.1, ?_⟩)
        rintro ⟨m', L, he, rfl, hf⟩
        have : m' = m := by omega
        subst this
        refine hz.2 fun k hk => ?_
        rw [cs_len] at hk
        rw [cs_get, cs_get]
        have h1 := hf.lt _ (mem_getD.2 ⟨k, hk, rfl⟩)
        refine ⟨by omega, by omega, fun h0 => ?_⟩
        have := hf.rise (k - 1) k (by omega) hk
        omega

theorem isNaN_eq (x : Int) : slices_isNaN_int x = some false := by simp [slices_isNaN_int]
theorem cisNaN_eq (x : Int) : cmp_isNaN_int x = some false := by simp [cmp_isNaN_int]
theorem Less_eq (x y : Int) : cmp_Less_int x y = some (decide (x < y)) := by simp [cmp_Less_int, cisNaN_eq]

theorem BinarySearch_spec (l : List Int) (t : Int) (hr : Rise l) (hl : l.length < 2 ^ 60) : Gets (slices_BinarySearch_int_int l t) (fun r => r.2 = true ↔ t ∈ l) := by
  unfold slices_BinarySearch_int_int
  refine gBind (R := fun i => ∃ k : Nat, i = (k : Int) ∧ k ≤ l.length ∧ (∀ j, j < k → l.getD j 0 < t) ∧ ∀ j, k ≤ j → j < l.length → t ≤ l.getD j 0)
    (gLoop (fun s => ∃ a b : Nat, s.1 = (a : Int) ∧ s.2 = (b : Int) ∧ a ≤ b ∧ b ≤ l.length ∧ (∀ j, j < a → l.getD j 0 < t) ∧ ∀ j, b ≤ j → j < l.length → t ≤ l.getD j 0) (fun s => (s.2 - s.1).toNat) ⟨0, l.length, rfl, rfl, Nat.zero_le _, Nat.le_refl _, none_all, fun j h1 h2 => by omega⟩ ?_) ?_
  · rintro ⟨_, _⟩ ⟨a, b, rfl, rfl, hab, hb, h1, h2⟩
    simp only
    refine gIte (fun h3 => ?_) fun h3 => gSome ⟨a, rfl, by omega, h1, fun j hj => h2 j (by omega)⟩
    have e : ((a : Int) + b) / 2 ^ 1 = (((a + b) / 2 : Nat) : Int) := by omega
    simp only [e, toNat_nat, Less_eq, Option.bind_some]
    refine gChk (by omega) (gChk (by omega) (gIte (fun h4 => gChk (by omega) (gSome ⟨⟨(a + b) / 2 + 1, b, by simp, rfl, by omega, hb, fun j hj => ?_, h2⟩, by simp only; omega⟩)) fun h4 => gSome ⟨⟨a, (a + b) / 2, rfl, rfl, by omega, by omega, h1, fun j h5 h6 => ?_⟩, by simp only; omega⟩))
    · have h4 := of_decide_eq_true h4
      rcases Nat.lt_or_ge j ((a + b) / 2) with q | q
      · have := hr j ((a + b) / 2) q (by omega); omega
      · have : j = (a + b) / 2 := by omega
        subst this; exact h4
    · have h4 : ¬ l.getD ((a + b) / 2) 0 < t := fun q => h4 (decide_eq_true q)
      rcases Nat.lt_or_ge ((a + b) / 2) j with q | q
      · have := hr ((a + b) / 2) j q h6; omega
      · have : j = (a + b) / 2 := by omega
        subst this; omega
  · rintro _ ⟨k, rfl, hk, h1, h2⟩
    have get : ∀ j, j < l.length → l.getD j 0 ∈ l := fun j hj => by
      rw [List.getD_eq_getElem?_getD, List.getElem?_eq_getElem hj]; exact List.getElem_mem hj
    refine gChk (by omega) ?_
    simp only [toNat_nat, isNaN_eq]
    refine gBindE (a := false) (by split <;> rfl) (gBindE (a := false) (by split <;> rfl) (gSome ?_))
    simp only [decide_eq_true_eq]
    constructor
    · rintro ⟨h3, h4⟩
      rcases h4 with h4 | h4
      · rw [← h4]; exact get k (by omega)
      · exact absurd h4.1 (by simp)
    · intro h3
      obtain ⟨j, hj, rfl⟩ := List.getElem_of_mem h3
      have ej : l.getD j 0 = l[j] := by rw [List.getD_eq_getElem?_getD, List.getElem?_eq_getElem hj]; rfl
      have hkj : k ≤ j := by
        rcases Nat.lt_or_ge j k with q | q
        · have := h1 j q; omega
        · exact q
      refine ⟨by omega, .inl ?_⟩
      have h5 := h2 k (Nat.le_refl _) (by omega)
      rcases Nat.lt_or_ge k j with q | q
      · have := hr k j q hj; omega
      · have : k = j := by omega
        subst this; exact ej

/-! ### elements one by one -/
/-- The least element. -/
def lo1 (t : Nat) : Nat := if t.testBit 0 then 0 else if t.testBit 1 then 1 else if t.testBit 2 then 2 else if t.testBit 3 then 3 else if t.testBit 4 then 4 else if t.testBit 5 then 5 else if t.testBit 6 then 6 else 7
theorem low_tab : ∀ t : Fin 256, t.val ≠ 0 → (iand (t.val : Int) (-(t.val : Int)) = ((2 ^ lo1 t.val : Nat) : Int) ∧ iand (t.val : Int) ((t.val : Int) - 1) = ((dif t.val (2 ^ lo1 t.val) : Nat) : Int) ∧ t.val.testBit (lo1 t.val) = true ∧ (∀ j : Fin 8, j.val < lo1 t.val → t.val.testBit j.val = false) ∧ dif t.val (2 ^ lo1 t.val) < t.val) :=
  of_decide_eq_true (by kernel_rfl)
structure IsLow (t i : Nat) : Prop where
  neg : iand (t : Int) (-(t : Int)) = ((2 ^ i : Nat) : Int)
  rest : iand (t : Int) ((t : Int) - 1) = ((dif t (2 ^ i) : Nat) : Int)
  bit : t.testBit i = true
  least : ∀ j, j < i → t.testBit j = false
  less : dif t (2 ^ i) < t
theorem low_spec {t : Nat} (h : t < 256) (h0 : t ≠ 0) : IsLow t (lo1 t) := by
  obtain ⟨h1, h2, h3, h4, h5⟩ := low_tab ⟨t, h⟩ h0
  refine ⟨h1, h2, h3, fun j hj => ?_, h5⟩
  have : lo1 t < 8 := by unfold lo1; repeat' split <;> (try omega)
  exact h4 ⟨j, by omega⟩ hj
end Go.SH
