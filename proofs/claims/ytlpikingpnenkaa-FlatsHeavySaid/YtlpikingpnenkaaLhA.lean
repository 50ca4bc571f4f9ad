/-
 Counting sets of up to eight elements; DE BRUIJN and ERDOES by CONWAY'S sum. Conditions: none.
-/
import Derived.Test.YtlpikingpnenkaaLhK
set_option linter.unusedSimpArgs false
set_option linter.unusedVariables false
namespace Go.SH
open Go Go.AX
/-! ### sums -/
def sQ (f : Nat → Nat) : Nat → Nat
 | 0 => 0
 | n + 1 => sQ f n + f n
theorem sQ_congr {f g : Nat → Nat} : ∀ {n : Nat}, (∀ i, i < n → f i = g i) → sQ f n = sQ g n
 | 0, _ => rfl
 | n + 1, h => by simp only [sQ]; rw [sQ_congr fun i hi => h i (by omega), h n (by omega)]
theorem sQ_le {f g : Nat → Nat} : ∀ {n : Nat}, (∀ i, i < n → f i ≤ g i) → sQ f n ≤ sQ g n
 | 0, _ => Nat.le_refl _
 | n + 1, h => by
  simp only [sQ]
  have := sQ_le (n := n) fun i hi => h i (by omega)
  have := h n (by omega)
  omega
theorem sQ_lt {f g : Nat → Nat} {k : Nat} : ∀ {n : Nat}, (∀ i, i < n → f i ≤ g i) → k < n → f k < g k → sQ f n < sQ g n
 | 0, _, hk, _ => absurd hk (Nat.not_lt_zero _)
 | n + 1, h, hk, hl => by
  simp only [sQ]
  have h0 := h n (by omega)
  rcases Nat.lt_or_ge k n with q | q
  ·have := sQ_lt (n := n) (fun i hi => h i (by omega)) q hl
   omega
  ·have e : k = n := by omega
   subst e
   have := sQ_le (f := f) (g := g) (n := k) fun i hi => h i (by omega)
   omega
theorem sQ_add (f g : Nat → Nat) : ∀ n, sQ (fun i => f i + g i) n = sQ f n + sQ g n
 | 0 => rfl
 | n + 1 => by simp only [sQ]; rw [sQ_add f g n]; omega
theorem sQ_mul (c : Nat) (f : Nat → Nat) : ∀ n, sQ (fun i => c * f i) n = c * sQ f n
 | 0 => rfl
 | n + 1 => by simp only [sQ]; rw [sQ_mul c f n, Nat.mul_add]
theorem sQ_zero : ∀ n, sQ (fun _ => 0) n = 0
 | 0 => rfl
 | n + 1 => by simp only [sQ]; rw [sQ_zero n]
theorem sQ_swap (f : Nat → Nat → Nat) (m : Nat) : ∀ n, sQ (fun i => sQ (fun j => f i j) m) n = sQ (fun j => sQ (fun i => f i j) n) m
 | 0 => (sQ_zero m).symm
 | n + 1 => by
  simp only [sQ]
  rw [sQ_swap f m n, ← sQ_add]
/-! ### how many sets are of a kind -/
open Classical in
noncomputable def b1 (P : Prop) : Nat := if P then 1 else 0
theorem b1_pos {P : Prop} (h : P) : b1 P = 1 := if_pos h
theorem b1_neg {P : Prop} (h : ¬ P) : b1 P = 0 := if_neg h
theorem b1_congr {P Q : Prop} (h : P ↔ Q) : b1 P = b1 Q := by rw [propext h]
noncomputable def nS (P : Nat → Prop) : Nat := sQ (fun s => b1 (P s)) 256
open Classical in
noncomputable def lS (P : Nat → Prop) : List Nat := (List.range 256).filter fun s => decide (P s)
theorem mem_lS {P : Nat → Prop} {s : Nat} : s ∈ lS P ↔ s < 256 ∧ P s := by simp [lS]
theorem lS_nodup (P : Nat → Prop) : (lS P).Nodup := List.nodup_range.filter _
theorem nS_len (P : Nat → Prop) : nS P = (lS P).length := by
 unfold nS lS
 have key : ∀ n, sQ (fun s => b1 (P s)) n = ((List.range n).filter fun s => @decide (P s) (Classical.propDecidable _)).length := by
  intro n
  induction n with
  | zero => rfl
  | succ n ih =>
   simp only [sQ]
   rw [ih, List.range_succ, List.filter_append, List.length_append]
   congr 1
   by_cases h : P n
   ·rw [b1_pos h]; simp [h]
   ·rw [b1_neg h]; simp [h]
 exact key 256
theorem len_leS : ∀ {P Q : List Nat}, P.Nodup → (∀ a, a ∈ P → a ∈ Q) → P.length ≤ Q.length := by
 intro P
 induction P with
 | nil => intro Q _ _; exact Nat.zero_le _
 | cons a P ih =>
  intro Q hn h
  have ha := h a (List.mem_cons_self ..)
  have hn' := List.nodup_cons.1 hn
  have := ih (Q := Q.erase a) hn'.2 fun b hb => (List.mem_erase_of_ne (by intro e; subst e; exact hn'.1 hb)).2 (h b (List.mem_cons_of_mem _ hb))
  rw [List.length_erase_of_mem ha] at this
  have : 0 < Q.length := List.length_pos_of_mem ha
  simp only [List.length_cons]
  omega
theorem nS_ge {P : Nat → Prop} {L : List Nat} (hn : L.Nodup) (h : ∀ s, s ∈ L → s < 256 ∧ P s) : L.length ≤ nS P := by
 rw [nS_len]; exact len_leS hn fun s hs => mem_lS.2 (h s hs)
theorem nS_le_list {P : Nat → Prop} {L : List Nat} (h : ∀ s, s < 256 → P s → s ∈ L) : nS P ≤ L.length := by
 rw [nS_len]; exact len_leS (lS_nodup P) fun s hs => h s (mem_lS.1 hs).1 (mem_lS.1 hs).2
theorem nodup_mapS {f : Nat → Nat} : ∀ {L : List Nat}, L.Nodup → (∀ a, a ∈ L → ∀ b, b ∈ L → f a = f b → a = b) → (L.map f).Nodup
 | [], _, _ => List.nodup_nil
 | a :: L, hn, h => by
  obtain ⟨h1, h2⟩ := List.nodup_cons.1 hn
  rw [List.map_cons]
  refine List.nodup_cons.2 ⟨fun hm => ?_, nodup_mapS h2 fun x hx y hy => h x (List.mem_cons_of_mem _ hx) y (List.mem_cons_of_mem _ hy)⟩
  obtain ⟨b, hb, e⟩ := List.mem_map.1 hm
  exact h1 (h b (List.mem_cons_of_mem _ hb) a List.mem_cons_self e ▸ hb)
theorem nS_inj {P Q : Nat → Prop} (f : Nat → Nat) (h : ∀ s, s < 256 → P s → f s < 256 ∧ Q (f s)) (hi : ∀ s t, s < 256 → t < 256 → P s → P t → f s = f t → s = t) : nS P ≤ nS Q := by
 rw [nS_len P]
 have hn := nodup_mapS (f := f) (lS_nodup P) fun a ha b hb e => hi a b (mem_lS.1 ha).1 (mem_lS.1 hb).1 (mem_lS.1 ha).2 (mem_lS.1 hb).2 e
 have := nS_ge (P := Q) hn fun s hs => by
  obtain ⟨a, ha, rfl⟩ := List.mem_map.1 hs
  exact h a (mem_lS.1 ha).1 (mem_lS.1 ha).2
 rwa [List.length_map] at this
theorem nS_mono {P Q : Nat → Prop} (h : ∀ s, s < 256 → P s → Q s) : nS P ≤ nS Q := nS_inj id (fun s hs hp => ⟨hs, h s hs hp⟩) fun _ _ _ _ _ _ e => e
theorem nS_congr {P Q : Nat → Prop} (h : ∀ s, s < 256 → (P s ↔ Q s)) : nS P = nS Q := Nat.le_antisymm (nS_mono fun s hs => (h s hs).1) (nS_mono fun s hs => (h s hs).2)
theorem nS_pos {P : Nat → Prop} {s : Nat} (hs : s < 256) (h : P s) : 1 ≤ nS P := nS_ge (L := [s]) (by simp) fun t ht => by
 rw [List.mem_singleton] at ht; subst ht; exact ⟨hs, h⟩
theorem nS_split (P Q : Nat → Prop) : nS P = nS (fun s => P s ∧ Q s) + nS (fun s => P s ∧ ¬ Q s) := by
 unfold nS
 rw [← sQ_add]
 refine sQ_congr fun s _ => ?_
 by_cases p : P s
 ·by_cases q : Q s
  ·rw [b1_pos p, b1_pos ⟨p, q⟩, b1_neg fun w => w.2 q]
  ·rw [b1_pos p, b1_neg fun w => q w.2, b1_pos ⟨p, q⟩]
 ·rw [b1_neg p, b1_neg fun w => p w.1, b1_neg fun w => p w.1]
theorem nS_256 (P : Nat → Prop) : nS P ≤ 256 := by
 have := nS_le_list (P := P) (L := List.range 256) fun s hs _ => List.mem_range.2 hs
 simpa using this
theorem facDvd : ∀ n : Nat, ∃ F : Nat, 0 < F ∧ ∀ d, 0 < d → d ≤ n → d ∣ F
 | 0 => ⟨1, by omega, fun d h1 h2 => by omega⟩
 | n + 1 => by
  obtain ⟨F, h1, h2⟩ := facDvd n
  refine ⟨F * (n + 1), Nat.mul_pos h1 (by omega), fun d h3 h4 => ?_⟩
  rcases Nat.lt_or_ge n d with q | q
  ·rw [show d = n + 1 by omega]; exact Nat.dvd_mul_left _ _
  ·exact Nat.dvd_trans (h2 d h3 q) (Nat.dvd_mul_right _ _)
/-- CONWAY'S sum. -/
theorem conway {X Y : Nat → Prop} {I : Nat → Nat → Prop}
  (h : ∀ x y, x < 256 → y < 256 → X x → Y y → ¬ I x y → nS (fun x' => X x' ∧ I x' y) ≤ nS (fun y' => Y y' ∧ I x y'))
  (hy : ∀ y, y < 256 → Y y → ∃ x, x < 256 ∧ X x ∧ ¬ I x y) (h1 : ∀ y, y < 256 → Y y → ∃ x, x < 256 ∧ X x ∧ I x y) (hne : ∃ y, y < 256 ∧ Y y) : nS X ≤ nS Y := by
 refine Nat.le_of_not_lt fun hlt => ?_
 obtain ⟨F, hF, hdv⟩ := facDvd 256
 have ex : ∀ x, ∃ d, d = nS fun y => Y y ∧ ¬ I x y := fun x => ⟨_, rfl⟩
 have ey : ∀ y, ∃ d, d = nS fun x => X x ∧ ¬ I x y := fun y => ⟨_, rfl⟩
 let dx : Nat → Nat := fun x => nS fun y => Y y ∧ ¬ I x y
 let dy : Nat → Nat := fun y => nS fun x => X x ∧ ¬ I x y
 have sx : ∀ x, nS Y = nS (fun y => Y y ∧ I x y) + dx x := fun x => nS_split Y fun y => I x y
 have sy : ∀ y, nS X = nS (fun x => X x ∧ I x y) + dy y := fun y => nS_split X fun x => I x y
 have cx : ∀ x, 0 < dx x → F / dx x * dx x = F := fun x hx => Nat.div_mul_cancel (hdv _ hx (nS_256 _))
 have cy : ∀ y, 0 < dy y → F / dy y * dy y = F := fun y hy => Nat.div_mul_cancel (hdv _ hy (nS_256 _))
 have pair : ∀ x y, x < 256 → y < 256 → X x → Y y → ¬ I x y → nS X * (F / dy y) < nS Y * (F / dx x) := by
  intro x y hx hy' hX hY hI
  have px : 0 < dx x := nS_pos (P := fun y => Y y ∧ ¬ I x y) hy' ⟨hY, hI⟩
  have py : 0 < dy y := nS_pos (P := fun x => X x ∧ ¬ I x y) hx ⟨hX, hI⟩
  have e1 := cx x px
  have e2 := cy y py
  have e3 := sx x
  have e4 := sy y
  have e5 := h x y hx hy' hX hY hI
  have e6 : 1 ≤ nS (fun x => X x ∧ I x y) := by
   obtain ⟨x', a1, a2, a3⟩ := h1 y hy' hY
   exact nS_pos (P := fun x => X x ∧ I x y) a1 ⟨a2, a3⟩
  generalize nS (fun x => X x ∧ I x y) = p at *
  generalize nS (fun y => Y y ∧ I x y) = q at *
  generalize F / dx x = a at *
  generalize F / dy y = b at *
  generalize dx x = u at *
  generalize dy y = v at *
  generalize nS X = n at *
  generalize nS Y = k at *
  -- n * u < k * v
  have e7 : n * u < k * v := by
   have t1 : k * n = n * q + n * u := by rw [← Nat.mul_add, ← e3, Nat.mul_comm]
   have t2 : k * n = k * p + k * v := by rw [← Nat.mul_add, ← e4]
   have t3 : k * p < n * q := Nat.lt_of_lt_of_le (Nat.mul_lt_mul_of_pos_right hlt e6) (Nat.mul_le_mul_left n e5)
   omega
  refine Nat.lt_of_mul_lt_mul_right (a := u * v) ?_
  have t1 : n * b * (u * v) = n * u * F := by rw [← e2]; simp only [Nat.mul_assoc, Nat.mul_left_comm, Nat.mul_comm]
  have t2 : k * a * (u * v) = k * v * F := by rw [← e1]; simp only [Nat.mul_assoc, Nat.mul_left_comm, Nat.mul_comm]
  rw [t1, t2]
  exact Nat.mul_lt_mul_of_pos_right e7 hF
 let T : Nat → Nat → Nat := fun x y => b1 (X x ∧ Y y ∧ ¬ I x y)
 have hT : ∀ x y, T x y = 1 ∧ (X x ∧ Y y ∧ ¬ I x y) ∨ T x y = 0 ∧ ¬ (X x ∧ Y y ∧ ¬ I x y) := fun x y => by
  rcases Classical.em (X x ∧ Y y ∧ ¬ I x y) with q | q
  ·exact .inl ⟨b1_pos q, q⟩
  ·exact .inr ⟨b1_neg q, q⟩
 have Tx : ∀ x, sQ (fun y => T x y) 256 = if b1 (X x) = 1 then dx x else 0 := fun x => by
  by_cases q : X x
  ·rw [if_pos (b1_pos q)]
   exact sQ_congr fun y _ => b1_congr ⟨fun w => w.2, fun w => ⟨q, w⟩⟩
  ·rw [if_neg (by rw [b1_neg q]; omega), ← sQ_zero 256]
   exact sQ_congr fun y _ => b1_neg fun w => q w.1
 have Ty : ∀ y, sQ (fun x => T x y) 256 = if b1 (Y y) = 1 then dy y else 0 := fun y => by
  by_cases q : Y y
  ·rw [if_pos (b1_pos q)]
   exact sQ_congr fun x _ => b1_congr ⟨fun w => ⟨w.1, w.2.2⟩, fun w => ⟨w.1, q, w.2⟩⟩
  ·rw [if_neg (by rw [b1_neg q]; omega), ← sQ_zero 256]
   exact sQ_congr fun x _ => b1_neg fun w => q w.2.1
 have A : sQ (fun x => sQ (fun y => T x y * (nS X * (F / dy y))) 256) 256 = nS X * F * nS Y := by
  rw [sQ_swap (fun x y => T x y * (nS X * (F / dy y)))]
  unfold nS
  rw [← sQ_mul]
  refine sQ_congr fun y hy' => ?_
  have : sQ (fun x => T x y * (sQ (fun s => b1 (X s)) 256 * (F / dy y))) 256 = sQ (fun s => b1 (X s)) 256 * (F / dy y) * sQ (fun x => T x y) 256 := by
   rw [← sQ_mul]; exact sQ_congr fun x _ => Nat.mul_comm _ _
  rw [this, Ty]
  by_cases q : Y y
  ·obtain ⟨x, a1, a2, a3⟩ := hy y hy' q
   have py : 0 < dy y := nS_pos (P := fun x => X x ∧ ¬ I x y) a1 ⟨a2, a3⟩
   rw [if_pos (b1_pos q), b1_pos q, Nat.mul_one, Nat.mul_assoc, cy y py]
  ·rw [if_neg (by rw [b1_neg q]; omega), b1_neg q, Nat.mul_zero, Nat.mul_zero]
 have Bq : sQ (fun x => sQ (fun y => T x y * (nS Y * (F / dx x))) 256) 256 ≤ nS Y * F * nS X := by
  have : nS Y * F * nS X = sQ (fun x => nS Y * F * b1 (X x)) 256 := (sQ_mul _ _ _).symm
  rw [this]
  refine sQ_le fun x hx => ?_
  have : sQ (fun y => T x y * (nS Y * (F / dx x))) 256 = nS Y * (F / dx x) * sQ (fun y => T x y) 256 := by
   rw [← sQ_mul]; exact sQ_congr fun y _ => Nat.mul_comm _ _
  rw [this, Tx]
  by_cases q : X x
  ·rw [if_pos (b1_pos q), b1_pos q, Nat.mul_one, Nat.mul_assoc]
   refine Nat.mul_le_mul_left _ ?_
   exact Nat.div_mul_le_self _ _
  ·rw [if_neg (by rw [b1_neg q]; omega), Nat.mul_zero]; exact Nat.zero_le _
 obtain ⟨y0, b1', b2⟩ := hne
 obtain ⟨x0, a1, a2, a3⟩ := hy y0 b1' b2
 have lt : sQ (fun x => sQ (fun y => T x y * (nS X * (F / dy y))) 256) 256 < sQ (fun x => sQ (fun y => T x y * (nS Y * (F / dx x))) 256) 256 := by
  have le : ∀ x y, x < 256 → y < 256 → T x y * (nS X * (F / dy y)) ≤ T x y * (nS Y * (F / dx x)) := fun x y hx hy' => by
   rcases hT x y with ⟨q, w⟩ | ⟨q, _⟩
   ·rw [q, Nat.one_mul, Nat.one_mul]
    exact Nat.le_of_lt (pair x y hx hy' w.1 w.2.1 w.2.2)
   ·rw [q, Nat.zero_mul, Nat.zero_mul]; exact Nat.le_refl _
  refine sQ_lt (k := x0) (fun x hx => sQ_le fun y hy' => le x y hx hy') a1 (sQ_lt (k := y0) (fun y hy' => le x0 y a1 hy') b1' ?_)
  rcases hT x0 y0 with ⟨q, w⟩ | ⟨_, w⟩
  ·rw [q, Nat.one_mul, Nat.one_mul]
   exact pair x0 y0 a1 b1' a2 b2 a3
  ·exact absurd ⟨a2, b2, a3⟩ w
 rw [A] at lt
 have : nS X * F * nS Y = nS Y * F * nS X := by rw [Nat.mul_comm (nS X * F), Nat.mul_comm (nS X) F, Nat.mul_assoc]
 omega
end Go.SH
