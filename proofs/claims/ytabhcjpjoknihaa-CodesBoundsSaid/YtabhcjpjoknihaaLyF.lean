/-
  Matrices modulo p: rows with heads, and package field as it computes (what the law CodesBounds needs). Conditions: none.
-/
import Derived.Test.YtabhcjpjoknihaaSp
set_option linter.unusedSimpArgs false
set_option linter.unusedVariables false
set_option linter.unusedSectionVars false
namespace Go.SH
open Go Go.AX

section
variable {α β σ ρ κ : Type}
/-- It has an answer, and of the answer this holds. -/
def Gets (x : Option α) (Q : α → Prop) : Prop := ∃ a, x = some a ∧ Q a
theorem Gets.of_eq {x : Option α} {a : α} (h : x = some a) : Gets x (fun b => b = a) := ⟨a, h, rfl⟩
theorem Gets.eq {x : Option α} {a : α} (h : Gets x (fun b => b = a)) : x = some a := by obtain ⟨b, h1, rfl⟩ := h; exact h1
theorem Gets.mono {x : Option α} {Q R : α → Prop} (h : Gets x Q) (hq : ∀ a, Q a → R a) : Gets x R := by obtain ⟨b, h1, h2⟩ := h; exact ⟨b, h1, hq b h2⟩
theorem Gets.get {x : Option α} {Q : α → Prop} (h : Gets x Q) {a : α} (ha : x = some a) : Q a := by obtain ⟨b, h1, h2⟩ := h; rw [ha] at h1; cases h1; exact h2
theorem Gets.and {x : Option α} {Q R : α → Prop} (h : Gets x Q) (h' : Gets x R) : Gets x (fun a => Q a ∧ R a) := by
  obtain ⟨b, h1, h2⟩ := h; exact ⟨b, h1, h2, h'.get h1⟩
theorem gSome {a : α} {Q : α → Prop} (h : Q a) : Gets (some a) Q := ⟨a, rfl, h⟩
theorem gChk {c : Prop} [Decidable c] {x : Option α} {Q : α → Prop} (hc : c) (h : Gets x Q) : Gets (chk c x) Q := by rw [chk_pos hc]; exact h
theorem gIte {c : Prop} [Decidable c] {x y : Option α} {Q : α → Prop} (h1 : c → Gets x Q) (h2 : ¬ c → Gets y Q) : Gets (if c then x else y) Q := by
  by_cases h : c
  · rw [if_pos h]; exact h1 h
  · rw [if_neg h]; exact h2 h
theorem gBind {x : Option α} {f : α → Option β} {R : α → Prop} {Q : β → Prop} (h : Gets x R) (h2 : ∀ a, R a → Gets (f a) Q) : Gets (x.bind f) Q := by
  obtain ⟨a, rfl, ha⟩ := h; exact h2 a ha
theorem gBindE {x : Option α} {f : α → Option β} {a : α} {Q : β → Prop} (h : x = some a) (h2 : Gets (f a) Q) : Gets (x.bind f) Q := by subst h; exact h2
theorem gJoin {y : κ → Option α} {x : (κ → Option α) → Option α} {Q : α → Prop} {R : κ → Prop} (hy : ∀ v, R v → Gets (y v) Q) (hx : ∀ j : κ → Option α, (∀ v, R v → Gets (j v) Q) → Gets (x j) Q) : Gets (joinM y x) Q := hx y hy
/-- What holds behind a round. -/
def Rnd (I : σ → Prop) (μ : σ → Nat) (s : σ) (Q : ρ → Prop) : σ ⊕ ρ → Prop
  | .inl s' => I s' ∧ μ s' < μ s
  | .inr r => Q r
theorem gLoop (I : σ → Prop) (μ : σ → Nat) {f : σ → Option (σ ⊕ ρ)} {Q : ρ → Prop} {s0 : σ} (h0 : I s0) (h : ∀ s, I s → Gets (f s) (Rnd I μ s Q)) : Gets (loopM f s0) Q := by
  have key : ∀ (m : Nat) (s : σ), μ s = m → I s → Gets (loopM f s) Q := by
    intro m
    induction m using Nat.strongRecOn with
    | ind m ih =>
      intro s hm hI
      obtain ⟨b, h1, h2⟩ := h s hI
      cases b with
      | inr r => exact ⟨r, loopM_inr h1, h2⟩
      | inl s' =>
        rw [loopM_inl h1]
        exact ih (μ s') (by have := h2.2; omega) s' rfl h2.1
  exact key _ _ rfl h0
/-- A loop that counts from k on: its states by the count. -/
theorem gFor (N : Nat) (S : Nat → σ → Prop) {f : σ → Option (σ ⊕ ρ)} {Q : ρ → Prop} {s0 : σ} {k0 : Nat} (hk : k0 ≤ N) (h0 : S k0 s0) (h : ∀ k s, k ≤ N → S k s → Gets (f s) (fun b => match b with | .inl s' => k < N ∧ S (k + 1) s' | .inr r => Q r)) : Gets (loopM f s0) Q := by
  have key : ∀ (m k : Nat) (s : σ), N - k = m → k ≤ N → S k s → Gets (loopM f s) Q := by
    intro m
    induction m with
    | zero =>
      intro k s hm hk hS
      obtain ⟨b, h1, h2⟩ := h k s hk hS
      cases b with
      | inr r => exact ⟨r, loopM_inr h1, h2⟩
      | inl s' => have := h2.1; omega
    | succ m ih =>
      intro k s hm hk hS
      obtain ⟨b, h1, h2⟩ := h k s hk hS
      cases b with
      | inr r => exact ⟨r, loopM_inr h1, h2⟩
      | inl s' =>
        rw [loopM_inl h1]
        exact ih (k + 1) s' (by omega) (by have := h2.1; omega) h2.2
  exact key _ _ _ rfl hk h0
/-- What is known of the arguments may be used. -/
theorem Pure_of_facts {P : Program} {f : FuncId} {args : List AVal} {r : AVal} {H : List Blk} (h : factL1 args → Pure P f args r H) : Pure P f args r H := by
  intro w F vs hag hlen hargs
  refine h (factL1_of fun i x hx => ?_) w F vs hag hlen hargs
  have hi : i < vs.size := by
    rw [← hlen]
    rcases Nat.lt_or_ge i args.length with q | q
    · exact q
    · rw [List.getElem?_eq_none q] at hx; cases hx
  exact fact1_rep (hargs i x _ hx (Array.getElem?_eq_getElem hi))
end
theorem toNat_nat (a : Nat) : ((a : Int)).toNat = a := rfl
theorem pow_le8 {n : Nat} (h : n ≤ 8) : 2 ^ n ≤ 256 := Nat.pow_le_pow_right (by omega) h
/-- g 0 + .. + g (n - 1). -/
def sumN : Nat → (Nat → Int) → Int
  | 0, _ => 0
  | n + 1, g => sumN n g + g n
theorem sumN_congr {n : Nat} {g h : Nat → Int} (e : ∀ i, i < n → g i = h i) : sumN n g = sumN n h := by
  induction n with
  | zero => rfl
  | succ n ih => simp only [sumN]; rw [ih fun i hi => e i (by omega), e n (by omega)]
theorem sumN_le {n : Nat} {g h : Nat → Int} (e : ∀ i, i < n → g i ≤ h i) : sumN n g ≤ sumN n h := by
  induction n with
  | zero => exact Int.le_refl _
  | succ n ih =>
    simp only [sumN]
    have := ih fun i hi => e i (by omega)
    have := e n (by omega)
    omega
theorem sumN_add (n : Nat) (g h : Nat → Int) : sumN n (fun i => g i + h i) = sumN n g + sumN n h := by
  induction n with
  | zero => rfl
  | succ n ih => simp only [sumN]; rw [ih]; omega
theorem sumN_zero (n : Nat) : sumN n (fun _ => 0) = 0 := by
  induction n with
  | zero => rfl
  | succ n ih => simp only [sumN]; rw [ih]; rfl
theorem sumN_mul (n : Nat) (c : Int) (g : Nat → Int) : sumN n (fun i => c * g i) = c * sumN n g := by
  induction n with
  | zero => simp [sumN]
  | succ n ih => simp only [sumN]; rw [ih, Int.mul_add]
theorem sumN_single (n i : Nat) (v : Int) (h : i < n) : sumN n (fun j => if j = i then v else 0) = v := by
  induction n with
  | zero => omega
  | succ n ih =>
    simp only [sumN]
    rcases Nat.lt_or_ge i n with q | q
    · rw [ih q, if_neg (by omega)]; omega
    · have : i = n := by omega
      subst this
      rw [if_pos rfl, sumN_congr (h := fun _ => 0) fun j hj => if_neg (by omega), sumN_zero]; omega
/-- One place more. -/
theorem sumN_upd {n i : Nat} {g h : Nat → Int} {v : Int} (hi : i < n) (e : ∀ j, j < n → h j = g j + if j = i then v else 0) : sumN n h = sumN n g + v := by
  rw [sumN_congr e, sumN_add, sumN_single n i v hi]
theorem sumN_swap (n m : Nat) (g : Nat → Nat → Int) : sumN n (fun i => sumN m (fun j => g i j)) = sumN m (fun j => sumN n (fun i => g i j)) := by
  induction n with
  | zero => simp only [sumN]; exact (sumN_zero m).symm
  | succ n ih => simp only [sumN]; rw [ih, ← sumN_add]
/-- How many of the first m elements a set has. -/
def cnt : Nat → Nat → Nat
  | 0, _ => 0
  | m + 1, s => cnt m s + if s.testBit m then 1 else 0
/-- How many elements a set has (of eight). -/
def size (s : Nat) : Nat := cnt 8 s
theorem bit_lt {s m i : Nat} (hs : s < 2 ^ m) (h : s.testBit i = true) : i < m := by
  rcases Nat.lt_or_ge i m with q | q
  · exact q
  · have := Nat.testBit_lt_two_pow (i := i) (Nat.lt_of_lt_of_le hs (Nat.pow_le_pow_right (by omega) q))
    rw [this] at h; cases h
theorem lt_of_bits {s m : Nat} (h : ∀ i, m ≤ i → s.testBit i = false) : s < 2 ^ m := by
  rcases Nat.lt_or_ge s (2 ^ m) with q | q
  · exact q
  · obtain ⟨i, h1, h2⟩ := Nat.exists_ge_and_testBit_of_ge_two_pow q
    rw [h i h1] at h2; cases h2
/-- Within. -/
def Inc (s t : Nat) : Prop := ∀ i, s.testBit i = true → t.testBit i = true
theorem sub_iff_and (s t : Nat) : s &&& t = s ↔ Inc s t := by
  constructor
  · intro h i hs
    have := congrArg (fun x => Nat.testBit x i) h
    simp only [Nat.testBit_and, hs, Bool.true_and] at this
    exact this
  · intro h
    apply Nat.eq_of_testBit_eq; intro i
    rw [Nat.testBit_and]
    cases hs : s.testBit i
    · rfl
    · rw [h i hs]; rfl
theorem Inc.trans {a b c : Nat} (h : Inc a b) (k : Inc b c) : Inc a c := fun i hi => k i (h i hi)
instance instIncDec (a b : Nat) : Decidable (Inc a b) := decidable_of_iff (a &&& b = a) (sub_iff_and a b)
theorem step_all {p : Nat → Prop} {k : Nat} (h1 : ∀ j, j < k → p j) (h2 : p k) : ∀ j, j < k + 1 → p j := fun j hj => by
  rcases Nat.lt_or_ge j k with q | q
  · exact h1 j q
  · have : j = k := by omega
    subst this; exact h2
theorem none_all {p : Nat → Prop} : ∀ j, j < 0 → p j := fun j hj => absurd hj (Nat.not_lt_zero j)
theorem mem_getD {L : List Nat} {a : Nat} : a ∈ L ↔ ∃ k, k < L.length ∧ L.getD k 0 = a := by
  rw [List.mem_iff_getElem?]
  constructor
  · rintro ⟨i, hi⟩
    exact ⟨i, (List.getElem?_eq_some_iff.1 hi).1, by rw [List.getD_eq_getElem?_getD, hi]; rfl⟩
  · rintro ⟨k, h1, h2⟩
    refine ⟨k, ?_⟩
    rw [List.getElem?_eq_getElem h1]
    rw [List.getD_eq_getElem?_getD, List.getElem?_eq_getElem h1] at h2
    exact congrArg some h2
/-- A family: sets of m elements, rising. -/
structure Fam (m : Nat) (L : List Nat) : Prop where
  m8 : m ≤ 8
  lt : ∀ s, s ∈ L → s < 2 ^ m
  rise : ∀ i j, i < j → j < L.length → L.getD i 0 < L.getD j 0
theorem Fam.ge {m : Nat} {L : List Nat} (h : Fam m L) : ∀ k, k < L.length → k ≤ L.getD k 0 := fun k => by
  induction k with
  | zero => intro _; exact Nat.zero_le _
  | succ k ih => intro hk; have := ih (by omega); have := h.rise k (k + 1) (by omega) hk; omega
theorem Fam.len {m : Nat} {L : List Nat} (h : Fam m L) : L.length ≤ 256 := by
  rcases Nat.eq_zero_or_pos L.length with q | q
  · omega
  · have h1 := h.ge (L.length - 1) (by omega)
    have h2 := h.lt _ (mem_getD.2 ⟨L.length - 1, by omega, rfl⟩)
    have := pow_le8 h.m8
    omega
theorem Fam.ext {m n : Nat} {L K : List Nat} (h : Fam m L) (h' : Fam n K) (e : ∀ s, s ∈ L ↔ s ∈ K) : L = K := by
  have sorted : ∀ {m : Nat} {L : List Nat}, Fam m L → L.Pairwise (· < ·) := fun {m L} h => by
    rw [List.pairwise_iff_getElem]
    intro i j hi hj hij
    have := h.rise i j hij hj
    simpa [List.getD_eq_getElem?_getD, List.getElem?_eq_getElem hi, List.getElem?_eq_getElem hj] using this
  have s1 := sorted h
  have s2 := sorted h'
  clear h h'
  induction L generalizing K with
  | nil =>
    cases K with
    | nil => rfl
    | cons b K => exact absurd ((e b).2 (by simp)) (by simp)
  | cons a L ih =>
    cases K with
    | nil => exact absurd ((e a).1 (by simp)) (by simp)
    | cons b K =>
      rw [List.pairwise_cons] at s1 s2
      have hab : a = b := by
        rcases List.mem_cons.1 ((e a).1 (by simp)) with q | q
        · exact q
        · rcases List.mem_cons.1 ((e b).2 (by simp)) with r | r
          · exact r.symm
          · have := s1.1 b r; have := s2.1 a q; omega
      subst hab
      rw [ih (fun s => ?_) s1.2 s2.2]
      constructor
      · intro hs
        rcases List.mem_cons.1 ((e s).1 (by simp [hs])) with q | q
        · subst q; have := s1.1 s hs; omega
        · exact q
      · intro hs
        rcases List.mem_cons.1 ((e s).2 (by simp [hs])) with q | q
        · subst q; have := s2.1 s hs; omega
        · exact q
def hA (E : List (Int × Int)) (k : Nat) : Nat := (E.getD k (0, 0)).1.toNat
def hB (E : List (Int × Int)) (k : Nat) : Nat := (E.getD k (0, 0)).2.toNat
section
variable {E : List (Int × Int)} {N : Nat}
def Adj (E : List (Int × Int)) (S x y : Nat) : Prop := ∃ k, k < E.length ∧ S.testBit k = true ∧ ((x = hA E k ∧ y = hB E k) ∨ (x = hB E k ∧ y = hA E k))
inductive Con (E : List (Int × Int)) (S : Nat) : Nat → Nat → Prop
  | refl (u : Nat) : Con E S u u
  | tail {u v w : Nat} : Con E S u v → Adj E S v w → Con E S u w
theorem Adj.symm {S x y : Nat} (h : Adj E S x y) : Adj E S y x := by
  obtain ⟨k, h1, h2, h3⟩ := h
  exact ⟨k, h1, h2, h3.elim (fun q => .inr ⟨q.2, q.1⟩) fun q => .inl ⟨q.2, q.1⟩⟩
theorem Con.trans {S u v w : Nat} (h : Con E S u v) (k : Con E S v w) : Con E S u w := by
  induction k with
  | refl => exact h
  | tail _ a ih => exact .tail ih a
theorem Con.one {S x y : Nat} (h : Adj E S x y) : Con E S x y := .tail (.refl _) h
theorem Con.symm {S u v : Nat} (h : Con E S u v) : Con E S v u := by
  induction h with
  | refl => exact .refl _
  | tail _ a ih => exact (Con.one a.symm).trans ih
theorem Con.mono {S T u v : Nat} (hST : Inc S T) (h : Con E S u v) : Con E T u v := by
  induction h with
  | refl => exact .refl _
  | tail _ a ih =>
    obtain ⟨k, h1, h2, h3⟩ := a
    exact .tail ih ⟨k, h1, hST k h2, h3⟩
/-- All ends are vertices. -/
def EndsLt (N : Nat) (E : List (Int × Int)) : Prop := ∀ k, k < E.length → hA E k < N ∧ hB E k < N
theorem Con.lt (hE : EndsLt N E) {S u v : Nat} (h : Con E S u v) (hu : u < N) : v < N := by
  cases h with
  | refl => exact hu
  | tail _ a =>
    obtain ⟨k, h1, h2, h3⟩ := a
    have := hE k h1
    omega
end
/-- A graph. -/
structure CG (N : Int) (E : List (Int × Int)) : Prop where
  n1 : 1 ≤ N
  n7 : N ≤ 7
  e8 : E.length ≤ 8
  bd : ∀ k, k < E.length → 0 ≤ (E.getD k (0, 0)).1 ∧ (E.getD k (0, 0)).1 < N ∧ 0 ≤ (E.getD k (0, 0)).2 ∧ (E.getD k (0, 0)).2 < N
theorem CG.ends {N : Nat} {E : List (Int × Int)} (h : CG N E) : EndsLt N E ∧ ∀ k, k < E.length → (E.getD k (0, 0)).1 = ((hA E k : Nat) : Int) ∧ (E.getD k (0, 0)).2 = ((hB E k : Nat) : Int) :=
  ⟨fun k hk => by have := h.bd k hk; unfold hA hB; omega, fun k hk => by have := h.bd k hk; unfold hA hB; omega⟩
theorem Inc.refl (a : Nat) : Inc a a := fun _ h => h
theorem Inc.lt {a b m : Nat} (h : Inc a b) (hb : b < 2 ^ m) : a < 2 ^ m := lt_of_bits fun i hi => by
  cases q : a.testBit i
  · rfl
  · have := bit_lt hb (h i q); omega
/-- Independent: within a basis. -/
def Ind (B : List Nat) (s : Nat) : Prop := ∃ b, b ∈ B ∧ Inc s b
theorem Ind.mono {B : List Nat} {s t : Nat} (h : Ind B t) (hs : Inc s t) : Ind B s := let ⟨b, h1, h2⟩ := h; ⟨b, h1, hs.trans h2⟩
/-- How much of a basis lies in a set at most. -/
def rk (m : Nat) (B : List Nat) (s : Nat) : Nat := B.foldl (fun r b => max r (cnt m (s &&& b))) 0
/-- Numbers that have inverses. -/
structure Fld (p : Nat) [NeZero p] : Prop where
  one : (1 : Fin p) ≠ 0
  inv : ∀ a : Fin p, a ≠ 0 → ∃ b, a * b = 1
theorem fld2 : Fld 2 := ⟨by decide, by decide⟩
theorem fld3 : Fld 3 := ⟨by decide, by decide⟩
theorem fld5 : Fld 5 := ⟨by decide, by decide⟩
theorem fld7 : Fld 7 := ⟨by decide, by decide⟩
section
variable {p : Nat} [NeZero p]
theorem Fld.mul_ne (hp : Fld p) {a b : Fin p} (ha : a ≠ 0) (hb : b ≠ 0) : a * b ≠ 0 := by
  obtain ⟨c, hc⟩ := hp.inv a ha
  intro h
  exact hb (by grind)
theorem Fld.zero_of (hp : Fld p) {a b : Fin p} (ha : a ≠ 0) (h : a * b = 0) : b = 0 :=
  Classical.byContradiction fun hb => hp.mul_ne ha hb h
def Sm : Nat → (Nat → Fin p) → Fin p
  | 0, _ => 0
  | n + 1, f => Sm n f + f n
theorem Sm_congr {f g : Nat → Fin p} : ∀ {n : Nat}, (∀ i, i < n → f i = g i) → Sm n f = Sm n g
  | 0, _ => rfl
  | n + 1, h => by rw [Sm, Sm, Sm_congr fun i hi => h i (by omega), h n (by omega)]
theorem Sm_add (f g : Nat → Fin p) : ∀ n, Sm n (fun i => f i + g i) = Sm n f + Sm n g
  | 0 => by simp [Sm]
  | n + 1 => by rw [Sm, Sm, Sm, Sm_add f g n]; grind
theorem Sm_mul (a : Fin p) (f : Nat → Fin p) : ∀ n, Sm n (fun i => a * f i) = a * Sm n f
  | 0 => by simp only [Sm]; grind
  | n + 1 => by rw [Sm, Sm, Sm_mul a f n]; grind
theorem Sm_mulr (a : Fin p) (f : Nat → Fin p) : ∀ n, Sm n (fun i => f i * a) = Sm n f * a
  | 0 => by simp only [Sm]; grind
  | n + 1 => by rw [Sm, Sm, Sm_mulr a f n]; grind
theorem Sm_neg (f : Nat → Fin p) : ∀ n, Sm n (fun i => - f i) = - Sm n f
  | 0 => by simp only [Sm]; grind
  | n + 1 => by rw [Sm, Sm, Sm_neg f n]; grind
theorem Sm_sub (f g : Nat → Fin p) (n : Nat) : Sm n (fun i => f i - g i) = Sm n f - Sm n g := by
  have h1 := Sm_add f (fun i => - g i) n
  rw [Sm_neg] at h1
  rw [Sm_congr (g := fun i => f i + - g i) (fun i _ => by grind), h1]; grind
theorem Sm_zero {f : Nat → Fin p} : ∀ {n : Nat}, (∀ i, i < n → f i = 0) → Sm n f = 0
  | 0, _ => rfl
  | n + 1, h => by rw [Sm, Sm_zero fun i hi => h i (by omega), h n (by omega)]; simp
theorem Sm_one {f : Nat → Fin p} {k : Nat} : ∀ {n : Nat}, k < n → (∀ i, i < n → i ≠ k → f i = 0) → Sm n f = f k
  | 0, h, _ => by omega
  | n + 1, hk, h => by
    rw [Sm]
    rcases Nat.lt_or_ge k n with c | c
    · rw [Sm_one c fun i hi hne => h i (by omega) hne, h n (by omega) (by omega)]; simp
    · have e : k = n := by omega
      subst e
      rw [Sm_zero fun i hi => h i (by omega) (by omega)]; simp
theorem Sm_comm (f : Nat → Nat → Fin p) (m : Nat) : ∀ n, Sm n (fun i => Sm m (fun j => f i j)) = Sm m (fun j => Sm n (fun i => f i j))
  | 0 => by simp only [Sm]; exact (Sm_zero fun _ _ => rfl).symm
  | n + 1 => by
    simp only [Sm]
    rw [Sm_comm f m n, ← Sm_add]
theorem Sm_app (f : Nat → Fin p) (n : Nat) : ∀ m, Sm (n + m) f = Sm n f + Sm m (fun i => f (n + i))
  | 0 => by simp [Sm]
  | m + 1 => by rw [← Nat.add_assoc, Sm, Sm_app f n m, Sm]; grind
/-- Past one. -/
def sk (k i : Nat) : Nat := if i < k then i else i + 1
theorem sk_lt {k i n : Nat} (h : i < n) : sk k i < n + 1 := by unfold sk; split <;> omega
theorem sk_ne (k i : Nat) : sk k i ≠ k := by unfold sk; split <;> omega
theorem sk_inj {k i j : Nat} (h : sk k i = sk k j) : i = j := by unfold sk at h; split at h <;> split at h <;> omega
theorem sk_of {k n : Nat} (hk : k < n + 1) {j : Nat} (hj : j < n + 1) (hne : j ≠ k) : ∃ i, i < n ∧ sk k i = j := by
  rcases Nat.lt_or_ge j k with c | c
  · exact ⟨j, by omega, by unfold sk; rw [if_pos c]⟩
  · exact ⟨j - 1, by omega, by unfold sk; rw [if_neg (by omega)]; omega⟩
theorem Sm_sk {k : Nat} (f : Nat → Fin p) : ∀ {n : Nat}, k < n + 1 → Sm (n + 1) f = f k + Sm n (fun i => f (sk k i))
  | 0, h => by have e : k = 0 := by omega
               subst e; simp [Sm]
  | n + 1, h => by
    rcases Nat.lt_or_ge k (n + 1) with c | c
    · have e : sk k n = n + 1 := by unfold sk; rw [if_neg (by omega)]
      rw [Sm, Sm_sk f c]
      conv => rhs; rw [Sm, e]
      grind
    · have e : k = n + 1 := by omega
      subst e
      rw [Sm, Sm_congr (n := n + 1) (g := fun i => f (sk (n + 1) i)) (fun i hi => by unfold sk; rw [if_pos hi])]
      grind
theorem nt1 (c x y b z : Fin p) : c * (x - y * b * z) = c * x - c * (y * b) * z := by grind
theorem nt2 {x y z : Fin p} (h : x - y * z = 0) : -y * z + x = 0 := by grind
theorem nt3 (c x : Fin p) {b z : Fin p} (h : z * b = 1) : c * x = c * (x * b) * z := by grind
theorem nt5 (x : Fin p) : x * 0 = 0 := by grind
theorem nt4 (x y : Fin p) : -x * y + x * y = 0 := by grind
/-- More unknowns than equations. -/
theorem nontriv (hp : Fld p) : ∀ (r k : Nat) (a : Nat → Nat → Fin p), r < k → ∃ c : Nat → Fin p, (∃ i, i < k ∧ c i ≠ 0) ∧ ∀ j, j < r → Sm k (fun i => c i * a i j) = 0
  | 0, k, a, h => ⟨fun _ => 1, ⟨0, h, hp.one⟩, fun j hj => by omega⟩
  | r + 1, 0, a, h => by omega
  | r + 1, k + 1, a, h => by
    rcases Classical.em (∃ i, i < k + 1 ∧ a i r ≠ 0) with ⟨i0, h0, hne⟩ | hall
    · obtain ⟨b, hb⟩ := hp.inv _ hne
      obtain ⟨c, ⟨i1, hi1, hc1⟩, hc⟩ := nontriv hp r k (fun i j => a (sk i0 i) j - a (sk i0 i) r * b * a i0 j) (by omega)
      -- the rest's numbers, put past i0
      obtain ⟨d, hd0, hd1⟩ : ∃ d : Nat → Fin p, d i0 = - Sm k (fun i => c i * (a (sk i0 i) r * b)) ∧ ∀ i, d (sk i0 i) = c i := by
        refine ⟨fun j => if j = i0 then - Sm k (fun i => c i * (a (sk i0 i) r * b)) else if j < i0 then c j else c (j - 1), by simp, fun i => ?_⟩
        show (if sk i0 i = i0 then _ else _) = _
        rw [if_neg (sk_ne i0 i)]
        unfold sk
        by_cases q : i < i0
        · rw [if_pos q, if_pos q]
        · rw [if_neg q, if_neg (by omega)]; rfl
      refine ⟨d, ⟨sk i0 i1, sk_lt hi1, by rw [hd1]; exact hc1⟩, fun j hj => ?_⟩
      have e1 : Sm k (fun i => d (sk i0 i) * a (sk i0 i) j) = Sm k (fun i => c i * a (sk i0 i) j) := Sm_congr fun i _ => by rw [hd1]
      rw [Sm_sk _ h0, hd0, e1]
      rcases Nat.lt_or_ge j r with q | q
      · have h1 := hc j q
        rw [Sm_congr (g := fun i => c i * a (sk i0 i) j - c i * (a (sk i0 i) r * b) * a i0 j) (fun i _ => nt1 _ _ _ _ _), Sm_sub, Sm_mulr] at h1
        exact nt2 h1
      · have e : j = r := by omega
        subst e
        have h2 : Sm k (fun i => c i * a (sk i0 i) j) = Sm k (fun i => c i * (a (sk i0 i) j * b)) * a i0 j := by
          rw [← Sm_mulr]
          exact Sm_congr fun i _ => nt3 _ _ hb
        rw [h2]; exact nt4 _ _
    · obtain ⟨c, h1, h2⟩ := nontriv hp r (k + 1) a (by omega)
      refine ⟨c, h1, fun j hj => ?_⟩
      rcases Nat.lt_or_ge j r with q | q
      · exact h2 j q
      · have e : j = r := by omega
        subst e
        exact Sm_zero fun i hi => by
          have : a i j = 0 := Classical.byContradiction fun hne => hall ⟨i, hi, hne⟩
          rw [this]; exact nt5 _
end
/-- An integer modulo p. -/
def cF (p : Nat) [NeZero p] (x : Int) : Fin p := ⟨(x % (p : Int)).toNat, by
  have hp : 0 < p := Nat.pos_of_ne_zero (NeZero.ne p)
  have h1 := Int.emod_nonneg x (show (p : Int) ≠ 0 by omega)
  have h2 := Int.emod_lt_of_pos x (show (0 : Int) < p by omega)
  omega⟩
section
variable {p : Nat} [NeZero p]
theorem pposZ : (0 : Int) < p := by have := Nat.pos_of_ne_zero (NeZero.ne p); omega
theorem cF_val (x : Int) : (((cF p x).val : Nat) : Int) = x % (p : Int) := Int.toNat_of_nonneg (Int.emod_nonneg x (Int.ne_of_gt pposZ))
theorem cF_ext {x y : Int} (h : x % (p : Int) = y % (p : Int)) : cF p x = cF p y := by
  apply Fin.ext
  have h1 := cF_val (p := p) x
  have h2 := cF_val (p := p) y
  omega
theorem cF_add (x y : Int) : cF p (x + y) = cF p x + cF p y := by
  apply Fin.ext
  apply Int.ofNat.inj
  show (((cF p (x + y)).val : Nat) : Int) = (((cF p x + cF p y).val : Nat) : Int)
  rw [cF_val, Fin.val_add, Int.natCast_emod, Int.natCast_add, cF_val, cF_val, ← Int.add_emod]
theorem cF_mul (x y : Int) : cF p (x * y) = cF p x * cF p y := by
  apply Fin.ext
  apply Int.ofNat.inj
  show (((cF p (x * y)).val : Nat) : Int) = (((cF p x * cF p y).val : Nat) : Int)
  rw [cF_val, Fin.val_mul, Int.natCast_emod, Int.natCast_mul, cF_val, cF_val, ← Int.mul_emod]
theorem cF_self : cF p (p : Int) = 0 := by
  apply Fin.ext
  apply Int.ofNat.inj
  show (((cF p p).val : Nat) : Int) = (((0 : Fin p).val : Nat) : Int)
  rw [cF_val, Int.emod_self]; simp
theorem cF_zero : cF p 0 = 0 := by
  apply Fin.ext
  apply Int.ofNat.inj
  show (((cF p 0).val : Nat) : Int) = (((0 : Fin p).val : Nat) : Int)
  rw [cF_val]; simp
theorem cF_sub (x y : Int) : cF p (x - y) = cF p x - cF p y := by
  have h := cF_add (p := p) (x - y) y
  rw [Int.sub_add_cancel] at h
  rw [h]; exact cs1 _ _
where cs1 (a b : Fin p) : a = a + b - b := by grind
theorem cF_tmod {x : Int} (h : 0 ≤ x) : cF p (Int.tmod x (p : Int)) = cF p x := by
  rw [Int.tmod_eq_emod_of_nonneg h]
  exact cF_ext (Int.emod_emod_of_dvd x (Int.dvd_refl _))
theorem tmod_bd {x : Int} (h : 0 ≤ x) : 0 ≤ Int.tmod x (p : Int) ∧ Int.tmod x (p : Int) < p := by
  rw [Int.tmod_eq_emod_of_nonneg h]
  exact ⟨Int.emod_nonneg x (Int.ne_of_gt pposZ), Int.emod_lt_of_pos x pposZ⟩
theorem cF_eq {x y : Int} (hx : 0 ≤ x ∧ x < p) (hy : 0 ≤ y ∧ y < p) : cF p x = cF p y ↔ x = y := by
  refine ⟨fun h => ?_, fun h => by rw [h]⟩
  have h1 := cF_val (p := p) x
  have h2 := cF_val (p := p) y
  rw [h, h2, Int.emod_eq_of_lt hx.1 hx.2, Int.emod_eq_of_lt hy.1 hy.2] at h1
  exact h1.symm
theorem cF_eq0 {x : Int} (hx : 0 ≤ x ∧ x < p) : cF p x = 0 ↔ x = 0 := by
  rw [← cF_zero]; exact cF_eq hx ⟨Int.le_refl _, pposZ⟩
theorem cF_fin (a : Fin p) : cF p (a.val : Int) = a := by
  apply Fin.ext
  apply Int.ofNat.inj
  show (((cF p (a.val : Int)).val : Nat) : Int) = ((a.val : Nat) : Int)
  rw [cF_val, Int.emod_eq_of_lt (by omega) (by have := a.isLt; omega)]
theorem cF_one (h1 : 1 < p) : cF p 1 = 1 := by
  apply Fin.ext
  apply Int.ofNat.inj
  show (((cF p 1).val : Nat) : Int) = (((1 : Fin p).val : Nat) : Int)
  have e : ((1 : Fin p).val) = 1 := by show 1 % p = 1; exact Nat.mod_eq_of_lt h1
  rw [cF_val, e, Int.emod_eq_of_lt (by omega) (by omega)]; rfl
def ent (X : List (List Int)) (i j : Nat) : Int := (X.getD i []).getD j 0
structure MOk (p r n : Nat) (X : List (List Int)) : Prop where
  len : X.length = r
  row : ∀ i, i < r → (X.getD i []).length = n
  bd : ∀ i, i < r → ∀ j, j < n → 0 ≤ ent X i j ∧ ent X i j < p
def MF (p : Nat) [NeZero p] (X : List (List Int)) (i j : Nat) : Fin p := cF p (ent X i j)
theorem ent_set {X : List (List Int)} {i j : Nat} {v : Int} (hi : i < X.length) (hj : j < (X.getD i []).length) (a b : Nat) : ent (X.set i ((X.getD i []).set j v)) a b = if a = i ∧ b = j then v else ent X a b := by
  unfold ent
  have e : ∀ (l : List (List Int)) (k : Nat), l.getD k [] = (l[k]?).getD [] := fun l k => List.getD_eq_getElem?_getD ..
  rw [e (X.set i _) a, List.getElem?_set]
  by_cases c : i = a
  · subst c
    rw [if_pos rfl, if_pos hi]
    simp only [Option.getD_some, true_and]
    rw [List.getD_eq_getElem?_getD, List.getElem?_set]
    by_cases d : j = b
    · subst d; rw [if_pos rfl, if_pos hj, if_pos rfl]; rfl
    · rw [if_neg d, if_neg (Ne.symm d), ← List.getD_eq_getElem?_getD]
  · rw [if_neg c, if_neg (fun h => c h.1.symm), ← e]
theorem len_set2 (X : List (List Int)) (i j : Nat) (v : Int) (m : Nat) : ((X.set i ((X.getD i []).set j v)).getD m []).length = (X.getD m []).length := by
  rw [List.getD_eq_getElem?_getD, List.getElem?_set]
  split
  · rename_i e
    subst e
    split
    · simp
    · rename_i h; rw [List.getD_eq_getElem?_getD, List.getElem?_eq_none (by omega)]
  · rw [← List.getD_eq_getElem?_getD]
theorem MOk.put {r n : Nat} {X : List (List Int)} (h : MOk p r n X) {i j : Nat} {v : Int} (hi : i < r) (hj : j < n) (hv : 0 ≤ v ∧ v < p) : MOk p r n (X.set i ((X.getD i []).set j v)) := by
  refine ⟨by rw [List.length_set]; exact h.len, fun a ha => ?_, fun a ha b hb => ?_⟩
  · rw [len_set2]; exact h.row a ha
  · rw [ent_set (by rw [h.len]; exact hi) (by rw [h.row i hi]; exact hj)]
    split
    · exact hv
    · exact h.bd a ha b hb
theorem MF_put {r n : Nat} {X : List (List Int)} (h : MOk p r n X) {i j : Nat} {v : Int} (hi : i < r) (hj : j < n) (a b : Nat) : MF p (X.set i ((X.getD i []).set j v)) a b = if a = i ∧ b = j then cF p v else MF p X a b := by
  unfold MF
  rw [ent_set (by rw [h.len]; exact hi) (by rw [h.row i hi]; exact hj)]
  split <;> rfl
def sw (a b i : Nat) : Nat := if i = b then a else if i = a then b else i
theorem sw_lt {a b i r : Nat} (ha : a < r) (hb : b < r) (hi : i < r) : sw a b i < r := by unfold sw; split <;> (try split) <;> omega
theorem sw_sw (a b i : Nat) : sw a b (sw a b i) = i := by unfold sw; split <;> (try split) <;> (try split) <;> (try split) <;> omega
theorem getD_swap {X : List (List Int)} {a b : Nat} (ha : a < X.length) (hb : b < X.length) (i : Nat) : ((X.set a (X.getD b [])).set b (X.getD a [])).getD i [] = X.getD (sw a b i) [] := by
  have e : ∀ (l : List (List Int)) (k : Nat), l.getD k [] = (l[k]?).getD [] := fun l k => List.getD_eq_getElem?_getD ..
  rw [e (List.set _ _ _) i, List.getElem?_set, List.length_set, List.getElem?_set]
  unfold sw
  by_cases c : b = i
  · subst c; rw [if_pos rfl, if_pos hb, if_pos rfl]; rfl
  · rw [if_neg c, if_neg (Ne.symm c)]
    by_cases d : a = i
    · subst d; rw [if_pos rfl, if_pos ha, if_pos rfl]; rfl
    · rw [if_neg d, if_neg (Ne.symm d), ← e]
theorem MOk.swap {r n : Nat} {X : List (List Int)} (h : MOk p r n X) {a b : Nat} (ha : a < r) (hb : b < r) : MOk p r n ((X.set a (X.getD b [])).set b (X.getD a [])) := by
  have hla : a < X.length := by rw [h.len]; exact ha
  have hlb : b < X.length := by rw [h.len]; exact hb
  refine ⟨by simp [h.len], fun i hi => ?_, fun i hi j hj => ?_⟩
  · rw [getD_swap hla hlb]; exact h.row _ (sw_lt ha hb hi)
  · unfold ent; rw [getD_swap hla hlb]; exact h.bd _ (sw_lt ha hb hi) j hj
theorem MF_swap {r n : Nat} {X : List (List Int)} (h : MOk p r n X) {a b : Nat} (ha : a < r) (hb : b < r) (i j : Nat) : MF p ((X.set a (X.getD b [])).set b (X.getD a [])) i j = MF p X (sw a b i) j := by
  unfold MF ent
  rw [getD_swap (by rw [h.len]; exact ha) (by rw [h.len]; exact hb)]
def Ker (r n : Nat) (M : Nat → Nat → Fin p) (v : Nat → Fin p) : Prop := ∀ i, i < r → Sm n (fun j => M i j * v j) = 0
theorem ker_sw {r n a b : Nat} {M M' : Nat → Nat → Fin p} (ha : a < r) (hb : b < r) (h : ∀ i, i < r → ∀ j, j < n → M' i j = M (sw a b i) j) (v : Nat → Fin p) : Ker r n M' v ↔ Ker r n M v := by
  constructor
  · intro hk i hi
    have := hk _ (sw_lt ha hb hi)
    rw [Sm_congr fun j hj => by rw [h _ (sw_lt ha hb hi) j hj, sw_sw]] at this
    exact this
  · intro hk i hi
    have := hk _ (sw_lt ha hb hi)
    rw [Sm_congr fun j hj => by rw [h i hi j hj]]
    exact this
/-- Multiples of one row taken from others. -/
theorem ker_sub {r n k : Nat} {M M' : Nat → Nat → Fin p} {t : Nat → Fin p} (hk : k < r) (ht : t k = 0) (h : ∀ i, i < r → ∀ j, j < n → M' i j = M i j - t i * M k j) (v : Nat → Fin p) : Ker r n M' v ↔ Ker r n M v := by
  have e : ∀ i, i < r → Sm n (fun j => M' i j * v j) = Sm n (fun j => M i j * v j) - t i * Sm n (fun j => M k j * v j) := fun i hi => by
    rw [← Sm_mul, ← Sm_sub]
    exact Sm_congr fun j hj => by rw [h i hi j hj]; exact e1 _ _ _ _
  constructor
  · intro hv
    have hk0 : Sm n (fun j => M k j * v j) = 0 := by
      have := e k hk
      rw [ht, hv k hk] at this
      exact e2 this
    intro i hi
    have := e i hi
    rw [hk0, hv i hi] at this
    exact e3 this
  · intro hv i hi
    rw [e i hi, hv i hi, hv k hk]; exact e4 _
where
  e1 (a b c d : Fin p) : (a - b * c) * d = a * d - b * (c * d) := by grind
  e2 {a : Fin p} (h : 0 = a - 0 * a) : a = 0 := by grind
  e3 {a b : Fin p} (h : 0 = a - b * 0) : a = 0 := by grind
  e4 (a : Fin p) : 0 - a * 0 = 0 := by grind
/-- With all on and below the diagonal as it should be nothing else is nought with all rows. -/
theorem ker_ut (hp : Fld p) {r n : Nat} {M : Nat → Nat → Fin p} (hr : n ≤ r) (hd : ∀ i, i < n → M i i ≠ 0) (hu : ∀ i, i < n → ∀ j, j < i → M i j = 0) {v : Nat → Fin p} (hv : Ker r n M v) : ∀ j, j < n → v j = 0 := by
  have key : ∀ d j, j < n → n - j ≤ d → v j = 0 := by
    intro d
    induction d with
    | zero => intro j hj h; omega
    | succ d ih =>
      intro j hj h
      have h1 := hv j (by omega)
      rw [Sm_one (k := j) hj fun i hi hne => ?_] at h1
      · exact hp.zero_of (hd j hj) h1
      · rcases Nat.lt_or_ge i j with c | c
        · rw [hu j hj i c]; exact z1 _
        · rw [ih i hi (by omega)]; exact z2 _
  exact fun j hj => key n j hj (by omega)
where
  z1 (a : Fin p) : 0 * a = 0 := by grind
  z2 (a : Fin p) : a * 0 = 0 := by grind
end
section
variable {p : Nat} [NeZero p]
structure El (r n : Nat) (M0 M : Nat → Nat → Fin p) (rk c : Nat) : Prop where
  rkc : rk ≤ c
  rkr : rk ≤ r
  cn : c ≤ n
  low : ∀ i, rk ≤ i → i < r → ∀ j, j < c → M i j = 0
  ker : ∀ v, Ker r n M v ↔ Ker r n M0 v
  two : (rk = c ∧ (∀ i, i < c → M i i ≠ 0) ∧ ∀ i, i < c → ∀ j, j < i → M i j = 0) ∨ (rk < c ∧ ∃ v, Ker r n M0 v ∧ ∃ j, j < n ∧ v j ≠ 0)
variable {r n rk c : Nat} {M0 M : Nat → Nat → Fin p}
theorem z0 (a : Fin p) : 0 * a = 0 := by grind
theorem z1 (a : Fin p) : a * 0 = 0 := by grind
theorem mulc (a b : Fin p) : a * b = b * a := by grind
/-- More columns than rows: something else is nought with all rows. -/
theorem ker_ex (hp : Fld p) (h : r < n) (M : Nat → Nat → Fin p) : ∃ v, Ker r n M v ∧ ∃ j, j < n ∧ v j ≠ 0 := by
  obtain ⟨v, ⟨j, hj, hne⟩, hv⟩ := nontriv hp r n (fun i j => M j i) h
  refine ⟨v, fun i hi => ?_, j, hj, hne⟩
  rw [← hv i hi]
  exact Sm_congr fun k _ => mulc _ _
theorem El.skip (hp : Fld p) (h : El r n M0 M rk c) (hc : c < n) (hz : ∀ i, rk ≤ i → i < r → M i c = 0) : El r n M0 M rk (c + 1) := by
  have hlow : ∀ i, rk ≤ i → i < r → ∀ j, j < c + 1 → M i j = 0 := fun i h1 h2 j hj => by
    rcases Nat.lt_succ_iff_lt_or_eq.1 hj with q | q
    · exact h.low i h1 h2 j q
    · subst q; exact hz i h1 h2
  refine ⟨by have := h.rkc; omega, h.rkr, by omega, hlow, h.ker, .inr ⟨by have := h.rkc; omega, ?_⟩⟩
  rcases h.two with ⟨e, _, _⟩ | ⟨_, q⟩
  · obtain ⟨v, ⟨j, hj, hne⟩, hv⟩ := nontriv hp c (c + 1) (fun i j => M j i) (by omega)
    refine ⟨fun j => if j < c + 1 then v j else 0, (h.ker _).1 fun i hi => ?_, j, by omega, by simpa [hj] using hne⟩
    rcases Nat.lt_or_ge i c with q | q
    · have e2 : n = (c + 1) + (n - (c + 1)) := by omega
      rw [e2, Sm_app, Sm_zero (n := n - (c + 1)) fun k _ => ?_, Sm_congr (g := fun k => v k * M i k) fun k hk => ?_, hv i q]
      · simp
      · simp only [if_pos hk]; exact mulc _ _
      · simp only [if_neg (show ¬ c + 1 + k < c + 1 by omega)]; exact z1 _
    · refine Sm_zero fun k hk => ?_
      by_cases ck : k < c + 1
      · rw [hlow i (by omega) hi k ck]; exact z0 _
      · simp only [if_neg ck]; exact z1 _
  · exact q
theorem El.done (hp : Fld p) (h : El r n M0 M rk c) (he : c = n ∨ rk = r) : rk = n ↔ ∀ v, Ker r n M0 v → ∀ j, j < n → v j = 0 := by
  have h1 := h.rkc
  have h2 := h.cn
  have h3 := h.rkr
  constructor
  · intro e v hv
    rcases h.two with ⟨e1, d1, d2⟩ | ⟨q, _⟩
    · have ec : c = n := by omega
      subst ec
      exact ker_ut hp (by omega) d1 d2 ((h.ker v).2 hv)
    · omega
  · intro hv
    rcases h.two with ⟨e1, d1, d2⟩ | ⟨_, v, v1, j, v2, v3⟩
    · rcases Nat.lt_or_ge rk n with q | q
      · obtain ⟨v, v1, j, v2, v3⟩ := ker_ex hp (show r < n by omega) M0
        exact absurd (hv v v1 j v2) v3
      · omega
    · exact absurd (hv v v1 j v2) v3
end
section
variable {p : Nat} [NeZero p]
theorem mul_bd7 {a b : Int} (h1 : 0 ≤ a) (h2 : a ≤ 7) (h3 : 0 ≤ b) (h4 : b ≤ 7) : 0 ≤ a * b ∧ a * b ≤ 49 := by
  refine ⟨Int.mul_nonneg h1 h3, ?_⟩
  have := Int.mul_le_mul h2 h4 h3 (by omega : (0 : Int) ≤ 7)
  omega
/-- The first row from rk on that is not nought in column c. -/
theorem search_spec {r n c rk : Nat} {Y : List (List Int)} (hY : MOk p r n Y) (hc : c < n) (hrk : rk ≤ r) :
    ∀ f : Int → Option (Int ⊕ Int), (∀ v : Int, f v = (chk (((v < (Y.length : Int)) → (0 ≤ v ∧ v < Y.length)) ∧ ((v < (Y.length : Int)) → (0 ≤ (c : Int) ∧ (c : Int) < ((Y.getD v.toNat []).length)))) <|
      if (v < (Y.length : Int) ∧ (Y.getD v.toNat []).getD (c : Int).toNat 0 = 0) then chk ((-9223372036854775808 ≤ (v + 1 : Int) ∧ (v + 1 : Int) ≤ 9223372036854775807)) <| some (.inl (v + 1)) else some (.inr v))) → r ≤ 6 →
    Gets (loopM f (rk : Int)) (fun v => ∃ k : Nat, v = (k : Int) ∧ rk ≤ k ∧ k ≤ r ∧ (∀ i, rk ≤ i → i < k → MF p Y i c = 0) ∧ (k < r → MF p Y k c ≠ 0)) := by
  intro f hf hr6
  have hl := hY.len
  refine gFor r (fun k (v : Int) => v = (k : Int) ∧ rk ≤ k ∧ ∀ i, rk ≤ i → i < k → MF p Y i c = 0) hrk ⟨rfl, Nat.le_refl _, fun i h1 h2 => by omega⟩ ?_
  rintro k v hk ⟨rfl, h1, h2⟩
  rw [hf]
  have hrow : k < r → (Y.getD k []).length = n := fun h => hY.row k h
  refine gChk ⟨fun h => ⟨by omega, h⟩, fun h => ⟨by omega, ?_⟩⟩ ?_
  · rw [toNat_nat, hrow (by omega)]; omega
  refine gIte (fun h3 => ?_) fun h3 => ?_
  · have hkr : k < r := by omega
    refine gChk ⟨by omega, by omega⟩ (gSome ⟨hkr, by simp, by omega, fun i a b => ?_⟩)
    rcases Nat.lt_succ_iff_lt_or_eq.1 b with q | q
    · exact h2 i a q
    · subst q
      refine (cF_eq0 (hY.bd i hkr c hc)).2 ?_
      exact h3.2
  · refine gSome ⟨k, rfl, h1, hk, h2, fun hkr => ?_⟩
    intro hz
    exact h3 ⟨by omega, (cF_eq0 (hY.bd k hkr c hc)).1 hz⟩
end
/-- A matrix. -/
def CM (P C : Int) (X : List (List Int)) : Prop := (P = 2 ∨ P = 3 ∨ P = 5 ∨ P = 7) ∧ 0 ≤ C ∧ C ≤ 8 ∧ X.length ≤ 6 ∧ ∀ i, i < X.length → ((X.getD i []).length : Int) = C ∧ ∀ j, j < (X.getD i []).length → 0 ≤ ent X i j ∧ ent X i j < P
theorem CM.elim {P C : Int} {X : List (List Int)} (h : CM P C X) : ∃ (p n : Nat) (_ : NeZero p), P = p ∧ C = n ∧ n ≤ 8 ∧ p ≤ 7 ∧ Fld p ∧ X.length ≤ 6 ∧ MOk p X.length n X := by
  obtain ⟨h1, h2, h3, h4, h5⟩ := h
  obtain ⟨n, rfl⟩ : ∃ n : Nat, C = n := ⟨C.toNat, by omega⟩
  have ok : ∀ p : Nat, P = p → MOk p X.length n X := fun p hp => by
    subst hp
    exact ⟨rfl, fun i hi => by have := (h5 i hi).1; omega, fun i hi j hj => (h5 i hi).2 j (by have := (h5 i hi).1; omega)⟩
  rcases h1 with e | e | e | e <;> subst e
  · exact ⟨2, n, inferInstance, rfl, rfl, by omega, by omega, fld2, h4, ok 2 rfl⟩
  · exact ⟨3, n, inferInstance, rfl, rfl, by omega, by omega, fld3, h4, ok 3 rfl⟩
  · exact ⟨5, n, inferInstance, rfl, rfl, by omega, by omega, fld5, h4, ok 5 rfl⟩
  · exact ⟨7, n, inferInstance, rfl, rfl, by omega, by omega, fld7, h4, ok 7 rfl⟩
theorem CM.of {p n : Nat} (hp : p = 2 ∨ p = 3 ∨ p = 5 ∨ p = 7) (hn : n ≤ 8) {r : Nat} (hr : r ≤ 6) {X : List (List Int)} (hX : MOk p r n X) : CM p n X :=
  ⟨by omega, by omega, by omega, by rw [hX.len]; exact hr, fun i hi => by
    rw [hX.len] at hi
    have := hX.row i hi
    exact ⟨by omega, fun j hj => hX.bd i hi j (by omega)⟩⟩
theorem CheckMatrix_spec (P C : Int) (X : List (List Int)) : Gets (kinds_CheckMatrix P C X) (fun e => (e = 0 ∨ e = 1) ∧ (e = 0 ↔ CM P C X)) := by
  unfold kinds_CheckMatrix
  refine gIte (fun h1 => gSome ⟨.inr rfl, fun h => by omega, fun h => ?_⟩) fun h1 => ?_
  · obtain ⟨a, b, c, d, _⟩ := h
    omega
  have hb : (P = 2 ∨ P = 3 ∨ P = 5 ∨ P = 7) ∧ 0 ≤ C ∧ C ≤ 8 ∧ X.length ≤ 6 := ⟨by omega, by omega, by omega, by omega⟩
  refine gBind (R := fun z : Unit ⊕ Int => match z with | .inl _ => CM P C X | .inr e => e = 1 ∧ ¬ CM P C X) (gFor X.length (fun i (v : Int) => v = (i : Int) ∧ ∀ a, a < i → ((X.getD a []).length : Int) = C ∧ ∀ j, j < (X.getD a []).length → 0 ≤ ent X a j ∧ ent X a j < P) (Nat.zero_le _) ⟨rfl, fun a ha => by omega⟩ ?_) ?_
  · rintro i v hi ⟨rfl, h2⟩
    refine gIte (fun h3 => ?_) fun h3 => ?_
    rotate_left
    · have e : i = X.length := by omega
      subst e
      exact gSome ⟨hb.1, hb.2.1, hb.2.2.1, hb.2.2.2, h2⟩
    have hil : i < X.length := by omega
    refine gChk ⟨by omega, by omega⟩ ?_
    simp only [toNat_nat]
    refine gIte (fun h4 => gSome ⟨rfl, fun h => h4 (h.2.2.2.2 i hil).1⟩) fun h4 => ?_
    refine gBind (R := fun z : Unit ⊕ Int => match z with | .inl _ => ∀ j, j < (X.getD i []).length → 0 ≤ ent X i j ∧ ent X i j < P | .inr e => e = 1 ∧ ¬ CM P C X) (gFor (X.getD i []).length (fun j (v : Int) => v = (j : Int) ∧ ∀ b, b < j → 0 ≤ ent X i b ∧ ent X i b < P) (Nat.zero_le _) ⟨rfl, fun b hb => by omega⟩ ?_) ?_
    · rintro j v hj ⟨rfl, h5⟩
      refine gIte (fun h6 => ?_) fun h6 => ?_
      rotate_left
      · have e : j = (X.getD i []).length := by omega
        subst e
        exact gSome h5
      have hjl : j < (X.getD i []).length := by omega
      refine gChk ⟨by omega, by omega⟩ ?_
      simp only [toNat_nat]
      have ee : (X.getD i []).getD j 0 = ent X i j := rfl
      refine gIte (fun h7 => gSome ⟨rfl, fun h => ?_⟩) fun h7 => ?_
      · have := (h.2.2.2.2 i hil).2 j hjl
        rw [ee] at h7
        omega
      · rw [ee] at h7
        refine gSome ⟨hjl, by simp, fun b hb' => ?_⟩
        rcases Nat.lt_succ_iff_lt_or_eq.1 hb' with q | q
        · exact h5 b q
        · subst q; omega
    · rintro (_ | e) hz
      · refine gSome ⟨hil, by simp, fun a ha => ?_⟩
        rcases Nat.lt_succ_iff_lt_or_eq.1 ha with q | q
        · exact h2 a q
        · subst q; exact ⟨by omega, hz⟩
      · exact gSome hz
  · rintro (_ | e) hz
    · exact gSome ⟨.inl rfl, fun _ => hz, fun _ => rfl⟩
    · obtain ⟨rfl, hz⟩ := hz
      exact gSome ⟨.inr rfl, fun h => by omega, fun h => absurd h hz⟩
section
variable {p : Nat} [NeZero p]
theorem fa1 (a b c : Fin p) : a * (b - c) = a * b - a * c := by grind
theorem fa2 (a b : Fin p) (h : a - b = 0) : a = b := by grind
theorem fa3 (a : Fin p) : a * 1 = a := by grind
theorem fa4 (a : Fin p) : 1 * a = a := by grind
theorem fa5 (a : Fin p) : a * 0 = 0 := by grind
theorem fa6 (a : Fin p) : 0 * a = 0 := by grind
theorem fa7 (a : Fin p) : a - a = 0 := by grind
theorem fa8 (a b : Fin p) : a * b = b * a := by grind
/-- Rows with heads: a head is 1 and stands alone in its column; what is before it is nought. -/
structure Rr (k n : Nat) (h : Nat → Nat) (M : Nat → Nat → Fin p) : Prop where
  inc : ∀ i j, i < j → j < k → h i < h j
  lt : ∀ i, i < k → h i < n
  one : ∀ i, i < k → M i (h i) = 1
  off : ∀ i j, i < k → j < k → i ≠ j → M i (h j) = 0
  low : ∀ i j, i < k → j < h i → M i j = 0
variable {k n : Nat} {h : Nat → Nat} {M : Nat → Nat → Fin p}
theorem Rr.inj (H : Rr k n h M) {i j : Nat} (hi : i < k) (hj : j < k) (e : h i = h j) : i = j := by
  rcases Nat.lt_trichotomy i j with c | c | c
  · have := H.inc i j c hj; omega
  · exact c
  · have := H.inc j i c hi; omega
theorem ind_sum (hlt : ∀ t, t < k → h t < n) (f c : Nat → Fin p) : Sm n (fun l => f l * Sm k (fun t => if l = h t then c t else 0)) = Sm k (fun t => f (h t) * c t) := by
  rw [Sm_congr (g := fun l => Sm k (fun t => f l * (if l = h t then c t else 0))) fun l _ => (Sm_mul _ _ _).symm, Sm_comm]
  refine Sm_congr fun t ht => ?_
  rw [Sm_one (k := h t) (hlt t ht) fun l _ hne => by rw [if_neg hne]; exact fa5 _, if_pos rfl]
theorem Rr.ind (H : Rr k n h M) (c : Nat → Fin p) {s : Nat} (hs : s < k) : Sm k (fun t => if h s = h t then c t else 0) = c s := by
  rw [Sm_one (k := s) hs fun t ht hne => if_neg fun e => hne (H.inj hs ht e).symm, if_pos rfl]
/-- What a column without a head tells. -/
def kv (k : Nat) (h : Nat → Nat) (M : Nat → Nat → Fin p) (j l : Nat) : Fin p := (if l = j then 1 else 0) - Sm k (fun t => if l = h t then M t j else 0)
theorem kv_sum (hlt : ∀ t, t < k → h t < n) {j : Nat} (hj : j < n) (f : Nat → Fin p) : Sm n (fun l => f l * kv k h M j l) = f j - Sm k (fun t => f (h t) * M t j) := by
  rw [← ind_sum hlt f (fun t => M t j)]
  have : f j = Sm n (fun l => f l * (if l = j then 1 else 0)) := by
    rw [Sm_one (k := j) hj fun l _ hne => by rw [if_neg hne]; exact fa5 _, if_pos rfl, fa3]
  rw [this, ← Sm_sub]
  exact Sm_congr fun l _ => fa1 _ _ _
theorem Rr.row (H : Rr k n h M) {i : Nat} (hi : i < k) (c : Nat → Fin p) : Sm k (fun t => M i (h t) * c t) = c i := by
  rw [Sm_one (k := i) hi fun t ht hne => by rw [H.off i t hi ht (Ne.symm hne)]; exact fa6 _, H.one i hi, fa4]
theorem Rr.kv_ker (H : Rr k n h M) {j : Nat} (hj : j < n) : Ker k n M (kv k h M j) := fun i hi => by
  rw [kv_sum H.lt hj, H.row hi (fun t => M t j), fa7]
theorem Rr.lead (H : Rr k n h M) (h1 : (1 : Fin p) ≠ 0) {j : Nat} (hj : j < n) : (∃ t, t < k ∧ h t = j) ↔ ∀ v : Nat → Fin p, Ker k n M v → (∀ l, j < l → l < n → v l = 0) → v j = 0 := by
  constructor
  · rintro ⟨t, ht, rfl⟩ v hv hz
    have := hv t ht
    rw [Sm_one (k := h t) hj fun l hl hne => ?_, H.one t ht, fa4] at this
    · exact this
    · rcases Nat.lt_or_ge l (h t) with c | c
      · rw [H.low t l ht c]; exact fa6 _
      · rw [hz l (by omega) hl]; exact fa5 _
  · intro hall
    apply Classical.byContradiction
    intro hno
    have hne : ∀ t, t < k → j ≠ h t := fun t ht e => hno ⟨t, ht, e.symm⟩
    have e : kv k h M j j = 1 := by
      unfold kv
      rw [if_pos rfl, Sm_zero fun t ht => if_neg (hne t ht)]
      grind
    refine h1 (e ▸ hall _ (H.kv_ker hj) fun l hl _ => ?_)
    unfold kv
    rw [if_neg (by omega), Sm_zero fun t ht => ?_]
    · exact fa7 0
    · by_cases c : l = h t
      · rw [if_pos c]; exact H.low t j ht (by omega)
      · rw [if_neg c]
theorem seq_le {k k' : Nat} {h h' : Nat → Nat} (i1 : ∀ i j, i < j → j < k → h i < h j) (i2 : ∀ i j, i < j → j < k' → h' i < h' j) (hs : ∀ t, t < k → ∃ t', t' < k' ∧ h' t' = h t) : k ≤ k' ∧ ∀ t, t < k → h' t ≤ h t := by
  have mono : ∀ i j, i ≤ j → j < k' → h' i ≤ h' j := fun i j hij hj => by
    rcases Nat.lt_or_ge i j with c | c
    · exact Nat.le_of_lt (i2 i j c hj)
    · rw [show i = j by omega]; exact Nat.le_refl _
  have key : ∀ t, t < k → ∃ t', t ≤ t' ∧ t' < k' ∧ h' t' = h t := by
    intro t
    induction t with
    | zero => exact fun h0 => let ⟨t', a, b⟩ := hs 0 h0; ⟨t', Nat.zero_le _, a, b⟩
    | succ t ih =>
      intro ht
      obtain ⟨u, u1, u2, u3⟩ := ih (by omega)
      obtain ⟨t', a, b⟩ := hs (t + 1) ht
      have h1 := i1 t (t + 1) (by omega) ht
      refine ⟨t', ?_, a, b⟩
      rcases Nat.lt_or_ge u t' with c | c
      · omega
      · have := mono t' u c u2; omega
  refine ⟨?_, fun t ht => ?_⟩
  · rcases Nat.eq_zero_or_pos k with c | c
    · omega
    · obtain ⟨t', a, b, _⟩ := key (k - 1) (by omega); omega
  · obtain ⟨t', a, b, c⟩ := key t ht
    rw [← c]; exact mono t t' a b
variable {k' : Nat} {h' : Nat → Nat} {M' : Nat → Nat → Fin p}
theorem Rr.heads (H : Rr k n h M) (H' : Rr k' n h' M') (h1 : (1 : Fin p) ≠ 0) (hk : ∀ v, Ker k n M v → Ker k' n M' v) : ∀ t, t < k' → ∃ s, s < k ∧ h s = h' t := fun t ht =>
  (H.lead h1 (H'.lt t ht)).2 fun v hv hz => (H'.lead h1 (H'.lt t ht)).1 ⟨t, ht, rfl⟩ v (hk v hv) hz
/-- Rows with heads are told by what is nought with them. -/
theorem Rr.same (H : Rr k n h M) (H' : Rr k' n h' M') (h1 : (1 : Fin p) ≠ 0) (hk : ∀ v, Ker k n M v ↔ Ker k' n M' v) : k = k' ∧ (∀ i, i < k → h i = h' i) ∧ ∀ i, i < k → ∀ j, j < n → M i j = M' i j := by
  obtain ⟨a1, a2⟩ := seq_le H'.inc H.inc (H.heads H' h1 fun v => (hk v).1)
  obtain ⟨b1, b2⟩ := seq_le H.inc H'.inc (H'.heads H h1 fun v => (hk v).2)
  have e : k = k' := by omega
  subst e
  have eh : ∀ i, i < k → h i = h' i := fun i hi => by have := a2 i hi; have := b2 i hi; omega
  refine ⟨rfl, eh, fun i hi j hj => ?_⟩
  have := (hk _).1 (H.kv_ker hj) i hi
  rw [kv_sum H.lt hj, Sm_congr (g := fun t => M' i (h' t) * M t j) fun t ht => by rw [eh t ht], H'.row hi (fun t => M t j)] at this
  exact (fa2 _ _ this).symm
end
section
variable {p : Nat} [NeZero p]
theorem fb2 (a b c d : Fin p) : a * b * c = a * c * b := by grind
theorem fb3 (a b t x : Fin p) : a + (0 - b) * x = a - b * x := by grind
theorem fb5 (a b : Fin p) : a - 0 * b = a := by grind
theorem fb6 (a b : Fin p) : a - b * 0 = a := by grind
theorem fb7 (a : Fin p) : a - a * 1 = 0 := by grind
theorem field_twin_spec {r n : Nat} {X : List (List Int)} (hX : MOk p r n X) (hr : r ≤ 6) (hn : n ≤ 8) (P C : Int) : Gets (field_twin P C X) (fun y => y = (P, C, X)) := by
  have hl := hX.len
  unfold field_twin
  refine gBind (R := fun o => o = X) (gFor r (fun k (x : List (List Int) × Int) => x.2 = (k : Int) ∧ x.1 = X.take k) (Nat.zero_le _) ⟨rfl, rfl⟩ ?_) ?_
  · rintro k ⟨_, _⟩ hk ⟨rfl, rfl⟩
    simp only [toNat_nat]
    refine gIte (fun h1 => ?_) fun h1 => gSome (List.take_of_length_le (by omega))
    have hkr : k < r := by omega
    have hrow := hX.row k hkr
    have e : X.take (k + 1) = X.take k ++ [X.getD k []] := by
      rw [List.getD_eq_getElem?_getD, List.getElem?_eq_getElem (show k < X.length by omega)]
      exact List.take_succ_eq_append_getElem (by omega)
    refine gChk ⟨by omega, by omega⟩ (gChk (by omega) (gChk (by rw [← e, List.length_take]; omega) (gSome ⟨hkr, by simp, e.symm⟩)))
  · rintro _ rfl
    exact gSome rfl
theorem finverse_spec (hp : Fld p) (h7 : p ≤ 7) {a : Int} (ha : 0 ≤ a ∧ a < p) : Gets (field_inverse a p) (fun f => (0 ≤ f ∧ f < p) ∧ (cF p a ≠ 0 → cF p f * cF p a = 1)) := by
  have hp0 : 0 < p := Nat.pos_of_ne_zero (NeZero.ne p)
  have hp1 : 1 < p := by
    rcases Nat.lt_or_ge 1 p with c | c
    · exact c
    · exfalso
      have e : p = 1 := by omega
      subst e
      exact hp.one (by apply Fin.ext; omega)
  have one : ∀ b : Nat, b < p → (Int.tmod (a * b) p = 1 ↔ cF p (b : Int) * cF p a = 1) := fun b hb => by
    have hm := mul_bd7 ha.1 (by omega) (show (0 : Int) ≤ b by omega) (by omega)
    have e : cF p (Int.tmod (a * b) p) = cF p (b : Int) * cF p a := by
      rw [cF_tmod hm.1, cF_mul]; exact mulc _ _
    rw [← e, ← cF_one hp1, cF_eq (tmod_bd hm.1) ⟨by omega, by omega⟩]
  unfold field_inverse
  refine gBind (R := fun z : Unit ⊕ Int => match z with | .inl _ => cF p a = 0 | .inr f => (0 ≤ f ∧ f < p) ∧ (cF p a ≠ 0 → cF p f * cF p a = 1)) (gFor p (fun k (v : Int) => v = (k : Int) ∧ 1 ≤ k ∧ ∀ b : Nat, b < k → Int.tmod (a * b) p ≠ 1) (show 1 ≤ p by omega) ⟨rfl, Nat.le_refl _, fun b hb => by rw [show b = 0 by omega]; simp⟩ ?_) ?_
  · rintro k v hk ⟨rfl, hk1, hb⟩
    refine gIte (fun h1 => ?_) fun h1 => ?_
    · have hm := mul_bd7 ha.1 (by omega) (show (0 : Int) ≤ k by omega) (by omega)
      refine gChk ⟨by omega, by omega⟩ (gIte (fun h2 => ?_) fun h2 => ?_)
      · exact gSome ⟨by omega, fun _ => (one k (by omega)).1 h2⟩
      · refine gSome ⟨by omega, by simp, by omega, fun b hb' => ?_⟩
        rcases Nat.lt_succ_iff_lt_or_eq.1 hb' with c | c
        · exact hb b c
        · subst c; exact h2
    · refine gSome ?_
      refine Classical.byContradiction fun hne => ?_
      obtain ⟨b, hb2⟩ := hp.inv _ hne
      refine hb b.val (by have := b.isLt; omega) ((one b.val b.isLt).2 ?_)
      rw [cF_fin, mulc]; exact hb2
  · rintro (_ | f) hz
    · exact gSome ⟨⟨by omega, by omega⟩, fun h => absurd hz h⟩
    · exact gSome hz
/-- A row times a number. -/
theorem scale_spec {r n rk : Nat} {Y : List (List Int)} {y : Int} (h7 : p ≤ 7) (hn8 : n ≤ 8) (hY : MOk p r n Y) (hrk : rk < r) (hy : 0 ≤ y ∧ y < p) :
    ∀ f : List (List Int) × Int → Option ((List (List Int) × Int) ⊕ List (List Int)), (∀ v v5, f (v, v5) = (if v5 < (n : Int) then
      chk ((0 ≤ (rk : Int) ∧ (rk : Int) < v.length) ∧ (0 ≤ v5 ∧ v5 < ((v.getD rk []).length)) ∧ (-9223372036854775808 ≤ (((v.getD rk []).getD v5.toNat 0) * y : Int) ∧ (((v.getD rk []).getD v5.toNat 0) * y : Int) ≤ 9223372036854775807) ∧ (p : Int) ≠ 0) <|
      some (.inl (v.set rk ((v.getD rk []).set v5.toNat (Int.tmod (((v.getD rk []).getD v5.toNat 0) * y) p)), v5 + 1))
      else some (.inr v))) →
    Gets (loopM f (Y, 0)) (fun Z => MOk p r n Z ∧ ∀ a, a < r → ∀ b, b < n → MF p Z a b = if a = rk then MF p Y a b * cF p y else MF p Y a b) := by
  intro f hf
  refine gFor n (fun k (x : List (List Int) × Int) => x.2 = (k : Int) ∧ MOk p r n x.1 ∧ ∀ a, a < r → ∀ b, b < n → MF p x.1 a b = if a = rk ∧ b < k then MF p Y a b * cF p y else MF p Y a b) (Nat.zero_le _) ⟨rfl, hY, fun a ha b hb => by rw [if_neg (by omega)]⟩ ?_
  rintro k ⟨v, _⟩ hk ⟨rfl, h2, h3⟩
  dsimp only at h2 h3
  rw [hf]
  have hl := h2.len
  have er : ∀ j, (v.getD rk []).getD j 0 = ent v rk j := fun _ => rfl
  simp only [toNat_nat, hl, h2.row rk hrk, er]
  refine gIte (fun h4 => ?_) fun h4 => ?_
  · have hkn : k < n := by omega
    have br := h2.bd rk hrk k hkn
    have m1 := mul_bd7 br.1 (by omega) hy.1 (by omega)
    refine gChk ⟨⟨by omega, by omega⟩, ⟨by omega, by omega⟩, ⟨by omega, by omega⟩, by omega⟩ (gSome ⟨hkn, by simp, h2.put hrk hkn (tmod_bd m1.1), fun a ha b hb => ?_⟩)
    rw [MF_put h2 hrk hkn]
    by_cases q : a = rk ∧ b = k
    · obtain ⟨rfl, rfl⟩ := q
      rw [if_pos ⟨rfl, rfl⟩, if_pos ⟨rfl, by omega⟩, cF_tmod m1.1, cF_mul]
      have e1 : cF p (ent v a b) = MF p Y a b := by have := h3 a ha b hb; rw [if_neg (by omega)] at this; exact this
      rw [e1]
    · rw [if_neg q, h3 a ha b hb]
      by_cases q2 : a = rk ∧ b < k
      · rw [if_pos q2, if_pos ⟨q2.1, by omega⟩]
      · rw [if_neg q2, if_neg (fun h => by
          rcases Nat.lt_succ_iff_lt_or_eq.1 h.2 with d | d
          · exact q2 ⟨h.1, d⟩
          · exact q ⟨h.1, d⟩)]
  · refine gSome ⟨h2, fun a ha b hb => ?_⟩
    rw [h3 a ha b hb]
    by_cases q : a = rk
    · rw [if_pos q, if_pos ⟨q, by omega⟩]
    · rw [if_neg q, if_neg (fun h => q h.1)]
/-- A row without a multiple of another row. -/
theorem frowop_spec {r n rk i : Nat} {Y : List (List Int)} {T : Int} (h7 : p ≤ 7) (hn8 : n ≤ 8) (hY : MOk p r n Y) (hrk : rk < r) (hi : i < r) (hne : i ≠ rk) (hT : 0 ≤ T ∧ T < p) :
    ∀ f : List (List Int) × Int → Option ((List (List Int) × Int) ⊕ List (List Int)), (∀ v v7, f (v, v7) = (if v7 < (n : Int) then
      chk ((0 ≤ (i : Int) ∧ (i : Int) < v.length) ∧ (0 ≤ v7 ∧ v7 < ((v.getD i []).length)) ∧ (-9223372036854775808 ≤ ((p : Int) - T : Int) ∧ ((p : Int) - T : Int) ≤ 9223372036854775807) ∧ (0 ≤ (rk : Int) ∧ (rk : Int) < v.length) ∧ (0 ≤ v7 ∧ v7 < ((v.getD rk []).length)) ∧ (-9223372036854775808 ≤ (((p : Int) - T) * ((v.getD rk []).getD v7.toNat 0) : Int) ∧ (((p : Int) - T) * ((v.getD rk []).getD v7.toNat 0) : Int) ≤ 9223372036854775807) ∧ (-9223372036854775808 ≤ (((v.getD i []).getD v7.toNat 0) + (((p : Int) - T) * ((v.getD rk []).getD v7.toNat 0)) : Int) ∧ (((v.getD i []).getD v7.toNat 0) + (((p : Int) - T) * ((v.getD rk []).getD v7.toNat 0)) : Int) ≤ 9223372036854775807) ∧ (p : Int) ≠ 0) <|
      chk ((-9223372036854775808 ≤ (v7 + 1 : Int) ∧ (v7 + 1 : Int) ≤ 9223372036854775807)) <|
      some (.inl (v.set i ((v.getD i []).set v7.toNat (Int.tmod (((v.getD i []).getD v7.toNat 0) + (((p : Int) - T) * ((v.getD rk []).getD v7.toNat 0))) p)), v7 + 1))
      else some (.inr v))) →
    Gets (loopM f (Y, 0)) (fun Z => MOk p r n Z ∧ ∀ a, a < r → ∀ b, b < n → MF p Z a b = if a = i then MF p Y a b - cF p T * MF p Y rk b else MF p Y a b) := by
  intro f hf
  refine gFor n (fun k (x : List (List Int) × Int) => x.2 = (k : Int) ∧ MOk p r n x.1 ∧ ∀ a, a < r → ∀ b, b < n → MF p x.1 a b = if a = i ∧ b < k then MF p Y a b - cF p T * MF p Y rk b else MF p Y a b) (Nat.zero_le _) ⟨rfl, hY, fun a ha b hb => by rw [if_neg (by omega)]⟩ ?_
  rintro k ⟨v, _⟩ hk ⟨rfl, h2, h3⟩
  dsimp only at h2 h3
  rw [hf]
  have hl := h2.len
  have ei : ∀ j, (v.getD i []).getD j 0 = ent v i j := fun _ => rfl
  have er : ∀ j, (v.getD rk []).getD j 0 = ent v rk j := fun _ => rfl
  simp only [toNat_nat, hl, h2.row i hi, h2.row rk hrk, ei, er]
  refine gIte (fun h4 => ?_) fun h4 => ?_
  · have hkn : k < n := by omega
    have bi := h2.bd i hi k hkn
    have br := h2.bd rk hrk k hkn
    have m1 := mul_bd7 (a := (p : Int) - T) (by omega) (by omega) br.1 (by omega)
    refine gChk ⟨⟨by omega, by omega⟩, ⟨by omega, by omega⟩, ⟨by omega, by omega⟩, ⟨by omega, by omega⟩, ⟨by omega, by omega⟩, ⟨by omega, by omega⟩, ⟨by omega, by omega⟩, by omega⟩ ?_
    have hpos : 0 ≤ ent v i k + ((p : Int) - T) * ent v rk k := by omega
    refine gChk ⟨by omega, by omega⟩ (gSome ⟨hkn, by simp, h2.put hi hkn (tmod_bd hpos), fun a ha b hb => ?_⟩)
    rw [MF_put h2 hi hkn]
    by_cases q : a = i ∧ b = k
    · obtain ⟨rfl, rfl⟩ := q
      rw [if_pos ⟨rfl, rfl⟩, if_pos ⟨rfl, by omega⟩, cF_tmod hpos, cF_add, cF_mul, cF_sub, cF_self]
      have e1 : cF p (ent v a b) = MF p Y a b := by have := h3 a ha b hb; rw [if_neg (by omega)] at this; exact this
      have e2 : cF p (ent v rk b) = MF p Y rk b := by have := h3 rk hrk b hb; rw [if_neg (fun h => hne h.1.symm)] at this; exact this
      rw [e1, e2]; exact fb3 _ _ 0 _
    · rw [if_neg q, h3 a ha b hb]
      by_cases q2 : a = i ∧ b < k
      · rw [if_pos q2, if_pos ⟨q2.1, by omega⟩]
      · rw [if_neg q2, if_neg (fun h => by
          rcases Nat.lt_succ_iff_lt_or_eq.1 h.2 with d | d
          · exact q2 ⟨h.1, d⟩
          · exact q ⟨h.1, d⟩)]
  · refine gSome ⟨h2, fun a ha b hb => ?_⟩
    rw [h3 a ha b hb]
    by_cases q : a = i
    · rw [if_pos q, if_pos ⟨q, by omega⟩]
    · rw [if_neg q, if_neg (fun h => q h.1)]
/-- What has been done of a matrix: k heads before column c. -/
structure GJ (r n k : Nat) (h : Nat → Nat) (c : Nat) (X M : Nat → Nat → Fin p) : Prop where
  ker : ∀ w, Ker r n X w ↔ Ker r n M w
  kr : k ≤ r
  cn : c ≤ n
  inc : ∀ i j, i < j → j < k → h i < h j
  lt : ∀ i, i < k → h i < c
  one : ∀ i, i < k → M i (h i) = 1
  off : ∀ i a, i < k → a < r → a ≠ i → M a (h i) = 0
  low : ∀ i j, i < k → j < h i → M i j = 0
  rest : ∀ a j, k ≤ a → a < r → j < c → M a j = 0
theorem ker_scale {r n k : Nat} {M M' : Nat → Nat → Fin p} {y b : Fin p} (hk : k < r) (hy : y * b = 1) (h : ∀ i, i < r → ∀ j, j < n → M' i j = if i = k then M i j * y else M i j) (v : Nat → Fin p) : Ker r n M' v ↔ Ker r n M v := by
  have e : ∀ i, i < r → Sm n (fun j => M' i j * v j) = if i = k then Sm n (fun j => M i j * v j) * y else Sm n (fun j => M i j * v j) := fun i hi => by
    by_cases q : i = k
    · rw [if_pos q, ← Sm_mulr]
      exact Sm_congr fun j hj => by rw [h i hi j hj, if_pos q]; exact fb2 _ _ _ 0
    · rw [if_neg q]
      exact Sm_congr fun j hj => by rw [h i hi j hj, if_neg q]
  constructor
  · intro hv i hi
    have := hv i hi
    rw [e i hi] at this
    by_cases q : i = k
    · rw [if_pos q] at this
      exact ks _ _ _ this hy
    · rw [if_neg q] at this; exact this
  · intro hv i hi
    rw [e i hi]
    have := hv i hi
    by_cases q : i = k
    · rw [if_pos q, this]; exact fa6 _
    · rw [if_neg q]; exact this
where
  ks (a y b : Fin p) (h : a * y = 0) (h2 : y * b = 1) : a = 0 := by grind
theorem GJ.skip {r n k c : Nat} {h : Nat → Nat} {X M : Nat → Nat → Fin p} (H : GJ r n k h c X M) (hc : c < n) (hz : ∀ a, k ≤ a → a < r → M a c = 0) : GJ r n k h (c + 1) X M := by
  refine ⟨H.ker, H.kr, hc, H.inc, fun i hi => Nat.lt_succ_of_lt (H.lt i hi), H.one, H.off, H.low, fun a j h1 h2 h3 => ?_⟩
  rcases Nat.lt_succ_iff_lt_or_eq.1 h3 with q | q
  · exact H.rest a j h1 h2 q
  · subst q; exact hz a h1 h2
theorem GJ.pivot {r n k c e : Nat} {h : Nat → Nat} {X M M1 M2 M3 : Nat → Nat → Fin p} {y : Fin p} (H : GJ r n k h c X M) (hc : c < n) (hk : k < r) (he : k ≤ e) (her : e < r)
    (h1 : ∀ i, i < r → ∀ j, j < n → M1 i j = M (sw k e i) j) (hy : y * M1 k c = 1) (h2 : ∀ i, i < r → ∀ j, j < n → M2 i j = if i = k then M1 i j * y else M1 i j)
    (h3 : ∀ i, i < r → ∀ j, j < n → M3 i j = if i = k then M2 i j else M2 i j - M2 i c * M2 k j) : GJ r n (k + 1) (fun i => if i = k then c else h i) (c + 1) X M3 := by
  have swr : ∀ i, i < r → sw k e i < r := fun i hi => sw_lt hk her hi
  have swk : ∀ i, i < k → sw k e i = i := fun i hi => by unfold sw; rw [if_neg (by omega), if_neg (by omega)]
  have swg : ∀ i, k ≤ i → i < r → k ≤ sw k e i := fun i hi hr => by unfold sw; split <;> (try split) <;> omega
  have hltc : ∀ i, i < k → h i < n := fun i hi => Nat.lt_trans (H.lt i hi) hc
  -- the pivot's row
  have r1 : ∀ j, j < c → M2 k j = 0 := fun j hj => by
    rw [h2 k hk j (by omega), if_pos rfl, h1 k hk j (by omega), H.rest _ j (swg k (Nat.le_refl _) hk) (swr k hk) hj]; exact fa6 _
  have r2 : M2 k c = 1 := by rw [h2 k hk c hc, if_pos rfl, fa8]; exact hy
  have off1 : ∀ i a, i < k → a < r → a ≠ i → M2 a (h i) = 0 := fun i a hi ha hne => by
    have : M1 a (h i) = 0 := by
      rw [h1 a ha (h i) (hltc i hi)]
      refine H.off i _ hi (swr a ha) fun q => ?_
      rcases Nat.lt_or_ge a k with w | w
      · rw [swk a w] at q; exact hne q
      · have := swg a w ha; omega
    rw [h2 a ha (h i) (hltc i hi), this]
    split
    · exact fa6 _
    · rfl
  have same : ∀ i j, i < k → j < n → M2 i j = M i j := fun i j hi hj => by
    rw [h2 i (by omega) j hj, if_neg (by omega), h1 i (by omega) j hj, swk i hi]
  refine ⟨fun w => ?_, hk, hc, fun i j hij hj => ?_, fun i hi => ?_, fun i hi => ?_, fun i a hi ha hne => ?_, fun i j hi hj => ?_, fun a j ha har hj => ?_⟩
  · rw [H.ker, ← ker_sw hk her h1 w, ← ker_scale hk hy h2 w]
    refine (ker_sub (t := fun i => if i = k then 0 else M2 i c) hk (if_pos rfl) (fun i hi j hj => ?_) w).symm
    rw [h3 i hi j hj]
    by_cases q : i = k
    · rw [if_pos q, if_pos q, fb5]
    · rw [if_neg q, if_neg q]
  · by_cases q : j = k
    · rw [if_pos q, if_neg (by omega)]; exact H.lt i (by omega)
    · rw [if_neg q, if_neg (by omega)]; exact H.inc i j hij (by omega)
  · by_cases q : i = k
    · rw [if_pos q]; omega
    · rw [if_neg q]; have := H.lt i (by omega); omega
  · by_cases q : i = k
    · rw [if_pos q, h3 i (by omega) c hc, if_pos q, q, r2]
    · have hik : i < k := by omega
      rw [if_neg q, h3 i (by omega) _ (hltc i hik), if_neg q, off1 i k hik hk (by omega), same i _ hik (hltc i hik), H.one i hik, fb6]
  · by_cases q : i = k
    · rw [if_pos q, h3 a ha c hc, if_neg (by omega), r2, fb7]
    · have hik : i < k := by omega
      rw [if_neg q, h3 a ha _ (hltc i hik)]
      by_cases w : a = k
      · rw [if_pos w]; exact off1 i a hik ha hne
      · rw [if_neg w, off1 i a hik ha hne, off1 i k hik hk (by omega), fb6]
  · by_cases q : i = k
    · rw [if_pos q] at hj
      rw [h3 i (by omega) j (by omega), if_pos q, q]; exact r1 j hj
    · have hik : i < k := by omega
      rw [if_neg q] at hj
      have := H.lt i hik
      rw [h3 i (by omega) j (by omega), if_neg q, r1 j (by omega), fb6, same i j hik (by omega)]
      exact H.low i j hik hj
  · rw [h3 a har j (by omega), if_neg (by omega)]
    rcases Nat.lt_succ_iff_lt_or_eq.1 hj with w | w
    · rw [r1 j w, fb6, h2 a har j (by omega), if_neg (by omega), h1 a har j (by omega)]
      exact H.rest _ j (swg a (by omega) har) (swr a har) w
    · subst w; rw [r2, fb7]
theorem GJ.fin {r n k c : Nat} {h : Nat → Nat} {X M : Nat → Nat → Fin p} (H : GJ r n k h c X M) (he : c = n ∨ k = r) : Rr k n h M ∧ ∀ w, Ker r n X w ↔ Ker k n M w := by
  refine ⟨⟨H.inc, fun i hi => Nat.lt_of_lt_of_le (H.lt i hi) H.cn, H.one, fun i j hi hj hne => H.off j i hj (Nat.lt_of_lt_of_le hi H.kr) hne, H.low⟩, fun w => ?_⟩
  rw [H.ker]
  constructor
  · exact fun hv i hi => hv i (Nat.lt_of_lt_of_le hi H.kr)
  · intro hv i hi
    rcases Nat.lt_or_ge i k with q | q
    · exact hv i q
    · rcases he with rfl | rfl
      · exact Sm_zero fun j hj => by rw [H.rest i j q hi hj]; exact fa6 _
      · omega
theorem Rr.congr {k n : Nat} {h : Nat → Nat} {M M' : Nat → Nat → Fin p} (e : ∀ i, i < k → ∀ j, M' i j = M i j) (H : Rr k n h M) : Rr k n h M' :=
  ⟨H.inc, H.lt, fun i hi => by rw [e i hi]; exact H.one i hi, fun i j hi hj hne => by rw [e i hi]; exact H.off i j hi hj hne, fun i j hi hj => by rw [e i hi]; exact H.low i j hi hj⟩
theorem getD_take {X : List (List Int)} {k i : Nat} (hi : i < k) : (X.take k).getD i [] = X.getD i [] := by
  rw [List.getD_eq_getElem?_getD, List.getElem?_take_of_lt hi, ← List.getD_eq_getElem?_getD]
theorem MOk.take {r n k : Nat} {X : List (List Int)} (hX : MOk p r n X) (hk : k ≤ r) : MOk p k n (X.take k) := by
  have hl := hX.len
  refine ⟨by rw [List.length_take]; omega, fun i hi => by rw [getD_take hi]; exact hX.row i (by omega), fun i hi j hj => ?_⟩
  have := hX.bd i (by omega) j hj
  unfold ent at this ⊢
  rw [getD_take hi]; exact this
theorem MF_take {X : List (List Int)} {k i : Nat} (hi : i < k) (j : Nat) : MF p (X.take k) i j = MF p X i j := by unfold MF ent; rw [getD_take hi]
theorem field_reduced_spec (hp : Fld p) (h7 : p ≤ 7) {r n : Nat} {X : List (List Int)} (hX : MOk p r n X) (hr : r ≤ 6) (hn : n ≤ 8) :
    Gets (field_reduced ((p : Int), (n : Int), X)) (fun y => ∃ (k : Nat) (h : Nat → Nat) (Y : List (List Int)), k ≤ r ∧ y = ((List.range k).map (fun i => ((h i : Nat) : Int)), ((p : Int), (n : Int), Y)) ∧ MOk p k n Y ∧ Rr k n h (MF p Y) ∧ ∀ w, Ker r n (MF p X) w ↔ Ker k n (MF p Y) w) := by
  unfold field_reduced
  dsimp only
  refine gBind (R := fun z : List (List Int) × List Int => ∃ (k : Nat) (h : Nat → Nat), z.2 = (List.range k).map (fun i => ((h i : Nat) : Int)) ∧ MOk p r n z.1 ∧ ∃ c, GJ r n k h c (MF p X) (MF p z.1) ∧ (c = n ∨ k = r))
    (gFor n (fun c (s : List (List Int) × List Int × Int) => s.2.2 = (c : Int) ∧ ∃ (k : Nat) (h : Nat → Nat), s.2.1 = (List.range k).map (fun i => ((h i : Nat) : Int)) ∧ MOk p r n s.1 ∧ GJ r n k h c (MF p X) (MF p s.1)) (Nat.zero_le _)
      ⟨rfl, 0, fun _ => 0, rfl, hX, ⟨fun w => Iff.rfl, Nat.zero_le _, Nat.zero_le _, fun i j _ h => by omega, fun i h => by omega, fun i h => by omega, fun i a h => by omega, fun i j h => by omega, fun a j _ _ h => by omega⟩⟩ ?_) ?_
  · rintro c ⟨Y, v, _⟩ hc ⟨rfl, k, h, hv, hY, hG⟩
    dsimp only at hv hY hG ⊢
    have hlen : v.length = k := by rw [hv]; simp
    have hl := hY.len
    have hkr := hG.kr
    simp only [hlen]
    refine gIte (fun h1 => ?_) fun h1 => gSome ⟨k, h, hv, hY, c, hG, by omega⟩
    have hcn : c < n := by omega
    have hk : k < r := by omega
    refine gBind (search_spec hY hcn hkr _ (fun v => rfl) hr) ?_
    rintro _ ⟨e, rfl, e1, e2, e3, e4⟩
    refine gIte (fun h2 => ?_) fun h2 => ?_
    · exact gChk ⟨by omega, by omega⟩ (gSome ⟨hcn, by simp, k, h, hv, hY, hG.skip hcn fun a ha har => e3 a ha (by omega)⟩)
    have her : e < r := by omega
    simp only [toNat_nat]
    have hS := hY.swap hk her
    have hMS := MF_swap hY hk her
    obtain ⟨Y1, hY1⟩ : ∃ Y1, Y1 = (Y.set k (Y.getD e [])).set e (Y.getD k []) := ⟨_, rfl⟩
    rw [← hY1] at hS hMS ⊢
    have hl1 := hS.len
    have b1 := hS.bd k hk c hcn
    refine gChk ⟨by omega, by omega⟩ (gChk ⟨by omega, by omega⟩ (gChk ⟨by omega, by omega⟩ (gChk ⟨by omega, by omega⟩ (gChk ⟨⟨by omega, by omega⟩, by omega, by rw [hS.row k hk]; omega⟩ ?_))))
    have ee : (Y1.getD k []).getD c 0 = ent Y1 k c := rfl
    rw [ee]
    refine gBind (finverse_spec hp h7 b1) ?_
    rintro y ⟨hy1, hy2⟩
    have hne : MF p Y1 k c ≠ 0 := by
      rw [hMS]
      have : sw k e k = e := by unfold sw; split <;> simp_all
      rw [this]; exact e4 her
    have hy3 := hy2 hne
    refine gChk ⟨by omega, by omega⟩ ?_
    rw [hS.row k hk]
    refine gBind (scale_spec h7 hn hS hk hy1 _ (fun v v5 => rfl)) ?_
    rintro Y2 ⟨hM2, h2'⟩
    have hl2 := hM2.len
    refine gBind (R := fun Y3 => MOk p r n Y3 ∧ ∀ a, a < r → ∀ b, b < n → MF p Y3 a b = if a = k then MF p Y2 a b else MF p Y2 a b - MF p Y2 a c * MF p Y2 k b) ?_ ?_
    · refine gFor r (fun i (s : List (List Int) × Int) => s.2 = (i : Int) ∧ MOk p r n s.1 ∧ ∀ a, a < r → ∀ b, b < n → MF p s.1 a b = if a ≠ k ∧ a < i then MF p Y2 a b - MF p Y2 a c * MF p Y2 k b else MF p Y2 a b) (Nat.zero_le _) ⟨rfl, hM2, fun a ha b hb => by rw [if_neg (by omega)]⟩ ?_
      rintro i ⟨Z, _⟩ hi ⟨rfl, hZ, hZ2⟩
      dsimp only at hZ hZ2 ⊢
      have hlZ := hZ.len
      refine gIte (fun h3 => ?_) fun h3 => ?_
      rotate_left
      · refine gSome ⟨hZ, fun a ha b hb => ?_⟩
        rw [hZ2 a ha b hb]
        by_cases q : a = k
        · rw [if_pos q, if_neg (fun w => w.1 q)]
        · rw [if_neg q, if_pos ⟨q, by omega⟩]
      have hir : i < r := by omega
      have bz := hZ.bd i hir c hcn
      have ez : (Z.getD i []).getD c 0 = ent Z i c := rfl
      simp only [toNat_nat, ez]
      refine gChk ⟨⟨by omega, by omega⟩, by omega, by rw [hZ.row i hir]; omega⟩ ?_
      have zc : MF p Z i c = MF p Y2 i c := by have := hZ2 i hir c hcn; rw [if_neg (by omega)] at this; exact this
      refine gIte (fun h4 => ?_) fun h4 => ?_
      · refine gSome ⟨hir, by simp, hZ, fun a ha b hb => ?_⟩
        rw [hZ2 a ha b hb]
        by_cases q : a ≠ k ∧ a < i
        · rw [if_pos q, if_pos ⟨q.1, by omega⟩]
        · rw [if_neg q]
          by_cases q2 : a ≠ k ∧ a < i + 1
          · have ai : a = i := by omega
            have z0 : MF p Y2 a c = 0 := by
              rw [ai, ← zc]
              exact (cF_eq0 bz).2 (h4.resolve_left fun w => q2.1 (by omega))
            rw [if_pos q2, z0, fb5]
          · rw [if_neg q2]
      · have hik : i ≠ k := fun w => h4 (.inl (by omega))
        refine gChk ⟨by omega, by omega⟩ ?_
        rw [hZ.row i hir]
        refine gBind (frowop_spec h7 hn hZ hk hir hik bz _ (fun v v7 => rfl)) ?_
        rintro W ⟨hW, hW2⟩
        refine gSome ⟨hir, by simp, hW, fun a ha b hb => ?_⟩
        rw [hW2 a ha b hb]
        by_cases q : a = i
        · have zr : MF p Z k b = MF p Y2 k b := by have := hZ2 k hk b hb; rw [if_neg (fun w => w.1 rfl)] at this; exact this
          have za : MF p Z a b = MF p Y2 a b := by have := hZ2 a ha b hb; rw [if_neg (by omega)] at this; exact this
          rw [if_pos q, if_pos ⟨by rw [q]; exact hik, by omega⟩, za, zr, q]
          have : cF p (ent Z i c) = MF p Y2 i c := zc
          rw [this]
        · rw [if_neg q, hZ2 a ha b hb]
          by_cases q2 : a ≠ k ∧ a < i
          · rw [if_pos q2, if_pos ⟨q2.1, by omega⟩]
          · rw [if_neg q2, if_neg (by omega)]
    · rintro Y3 ⟨hM3, h3'⟩
      refine gChk (by rw [List.length_append, hlen]; simp; omega) (gChk ⟨by omega, by omega⟩ (gSome ⟨hcn, by simp, k + 1, fun i => if i = k then c else h i, ?_, hM3, hG.pivot hcn hk e1 her (fun i hi j hj => hMS i j) hy3 h2' h3'⟩))
      dsimp only
      rw [List.range_succ, List.map_append, hv]
      congr 1
      · exact List.map_congr_left fun i hi => by have := List.mem_range.1 hi; rw [if_neg (by omega)]
      · simp
  · rintro ⟨Y, v⟩ ⟨k, h, hv, hY, c, hG, hce⟩
    dsimp only at hv hY hG ⊢
    have hlen : v.length = k := by rw [hv]; simp
    have hl := hY.len
    have hkr := hG.kr
    simp only [hlen, toNat_nat]
    refine gChk ⟨by omega, by omega⟩ (gChk ⟨by omega, by omega⟩ (gSome ⟨k, h, Y.take k, hkr, by rw [hv], hY.take hkr, (hG.fin hce).1.congr fun i hi j => MF_take hi j, fun w => ?_⟩))
    rw [(hG.fin hce).2]
    constructor
    · intro hw i hi
      rw [Sm_congr fun j hj => by rw [MF_take hi j]]; exact hw i hi
    · intro hw i hi
      rw [Sm_congr fun j hj => by rw [← MF_take (X := Y) hi j]]; exact hw i hi
end
theorem setI_getD {l : List Int} {k : Nat} (v : Int) (hk : k < l.length) (j : Nat) : (l.set k v).getD j 0 = if j = k then v else l.getD j 0 := by
  simp only [List.getD_eq_getElem?_getD, List.getElem?_set]
  by_cases e : k = j
  · subst e; simp [hk]
  · rw [if_neg e, if_neg (fun e' => e e'.symm)]
section
variable {p : Nat} [NeZero p]
theorem MOk.ext {r n : Nat} {X Y : List (List Int)} (hX : MOk p r n X) (hY : MOk p r n Y) (h : ∀ i, i < r → ∀ j, j < n → MF p X i j = MF p Y i j) : X = Y := by
  have row : ∀ {Z : List (List Int)} {i : Nat} (hi : i < Z.length), Z[i] = Z.getD i [] := fun hi => by rw [List.getD_eq_getElem?_getD, List.getElem?_eq_getElem hi]; rfl
  refine List.ext_getElem (by rw [hX.len, hY.len]) fun i h1 h2 => ?_
  have hir : i < r := by rw [← hX.len]; exact h1
  rw [row h1, row h2]
  refine List.ext_getElem (by rw [hX.row i hir, hY.row i hir]) fun j h3 h4 => ?_
  have hjn : j < n := by rw [← hX.row i hir]; exact h3
  have e := (cF_eq (hX.bd i hir j hjn) (hY.bd i hir j hjn)).1 (h i hir j hjn)
  unfold ent at e
  rw [List.getD_eq_getElem?_getD (l := X.getD i []), List.getD_eq_getElem?_getD (l := Y.getD i []), List.getElem?_eq_getElem h3, List.getElem?_eq_getElem h4] at e
  exact e
theorem CM.bad {P C : Int} {X : List (List Int)} (h : ¬ CM P C X) : Gets (kinds_CheckMatrix P C X) (fun e => e ≠ 0) :=
  (CheckMatrix_spec P C X).mono fun e he q => h (he.2.1 q)
theorem CM.good {P C : Int} {X : List (List Int)} (h : CM P C X) : Gets (kinds_CheckMatrix P C X) (fun e => e = 0) :=
  (CheckMatrix_spec P C X).mono fun e he => he.2.2 h
/-- Rows with heads that tell as much as X. -/
def RedOf (p : Nat) [NeZero p] (r n : Nat) (X : List (List Int)) (k : Nat) (h : Nat → Nat) (Y : List (List Int)) : Prop := k ≤ r ∧ MOk p k n Y ∧ Rr k n h (MF p Y) ∧ ∀ w, Ker r n (MF p X) w ↔ Ker k n (MF p Y) w
theorem Reduced_spec (hp : Fld p) (h7 : p ≤ 7) {r n : Nat} {X : List (List Int)} (hX : MOk p r n X) (hr : r ≤ 6) (hn : n ≤ 8) (hc : CM p n X) : Gets (field_Reduced p n X) (fun y => ∃ (k : Nat) (h : Nat → Nat) (Y : List (List Int)), y = ((p : Int), (n : Int), Y, 0) ∧ RedOf p r n X k h Y) := by
  unfold field_Reduced
  refine gBind hc.good fun e he => gIte (fun q => absurd he q) fun _ => ?_
  refine gBind (field_twin_spec hX hr hn _ _) ?_
  rintro _ rfl
  refine gBind (field_reduced_spec hp h7 hX hr hn) ?_
  rintro _ ⟨k, h, Y, h1, rfl, h2, h3, h4⟩
  exact gSome ⟨k, h, Y, rfl, h1, h2, h3, h4⟩
theorem Reduced_bad {P C : Int} {X : List (List Int)} (h : ¬ CM P C X) : Gets (field_Reduced P C X) (fun y => y.2.2.2 ≠ 0 ∧ y.2.2.1 = []) := by
  unfold field_Reduced
  exact gBind (CM.bad h) fun e he => gIte (fun q => gSome ⟨he, rfl⟩) fun q => absurd he q
theorem Rank_spec (hp : Fld p) (h7 : p ≤ 7) {r n : Nat} {X : List (List Int)} (hX : MOk p r n X) (hr : r ≤ 6) (hn : n ≤ 8) (hc : CM p n X) : Gets (field_Rank p n X) (fun y => ∃ (k : Nat) (h : Nat → Nat) (Y : List (List Int)), y = ((k : Int), 0) ∧ RedOf p r n X k h Y) := by
  unfold field_Rank
  refine gBind hc.good fun e he => gIte (fun q => absurd he q) fun _ => ?_
  refine gBind (field_twin_spec hX hr hn _ _) ?_
  rintro _ rfl
  refine gBind (field_reduced_spec hp h7 hX hr hn) ?_
  rintro _ ⟨k, h, Y, h1, rfl, h2, h3, h4⟩
  exact gSome ⟨k, h, Y, by simp, h1, h2, h3, h4⟩
end
section
variable {p : Nat} [NeZero p]
theorem Red.same {r n k k' : Nat} {h h' : Nat → Nat} {X A A' : List (List Int)} (h1 : (1 : Fin p) ≠ 0) (H : RedOf p r n X k h A) (H' : RedOf p k n A k' h' A') : A = A' := by
  obtain ⟨_, a1, a2, a3⟩ := H
  obtain ⟨_, b1, b2, b3⟩ := H'
  obtain ⟨rfl, _, e⟩ := a2.same b2 h1 b3
  exact a1.ext b1 e
end
end Go.SH
