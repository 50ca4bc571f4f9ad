/-
  Flows: what goes through a cut. Package links as it computes: the network (links.laid). Package links as it computes: one way more (pipes.more): a search in width, and a unit turned round along the way back. The network turned round; one more to start from.  Conditions: none.
-/
import Derived.Test.YtdhbpoafkhojnaaLM
import Derived.Test.YtdhbpoafkhojnaaLGk
import Derived.Test.YtdhbpoafkhojnaaSplinks

set_option linter.unusedSimpArgs false
set_option linter.unusedVariables false
namespace Go.SH
open Go Go.AX

def sm : Nat → (Nat → Int) → Int
  | 0, _ => 0
  | n + 1, f => sm n f + f n
theorem sm_congr {f g : Nat → Int} : ∀ {n : Nat}, (∀ i, i < n → f i = g i) → sm n f = sm n g
  | 0, _ => rfl
  | n + 1, h => by rw [sm, sm, sm_congr fun i hi => h i (by omega), h n (by omega)]
theorem sm_add (f g : Nat → Int) : ∀ n, sm n (fun i => f i + g i) = sm n f + sm n g
  | 0 => rfl
  | n + 1 => by simp only [sm]; rw [sm_add f g n]; omega
theorem sm_zero {f : Nat → Int} : ∀ {n : Nat}, (∀ i, i < n → f i = 0) → sm n f = 0
  | 0, _ => rfl
  | n + 1, h => by simp only [sm]; rw [sm_zero fun i hi => h i (by omega), h n (by omega)]; rfl
theorem sm_le {f g : Nat → Int} : ∀ {n : Nat}, (∀ i, i < n → f i ≤ g i) → sm n f ≤ sm n g
  | 0, _ => Int.le_refl _
  | n + 1, h => by
    simp only [sm]
    have := sm_le (n := n) fun i hi => h i (by omega)
    have := h n (by omega)
    omega
theorem sm_one {f : Nat → Int} {k : Nat} : ∀ {n : Nat}, k < n → (∀ i, i < n → i ≠ k → f i = 0) → sm n f = f k
  | 0, h, _ => by omega
  | n + 1, h, hz => by
    simp only [sm]
    rcases Nat.lt_succ_iff_lt_or_eq.1 h with q | q
    · rw [sm_one q fun i hi hn => hz i (by omega) hn, hz n (by omega) (by omega)]; omega
    · subst q
      rw [sm_zero fun i hi => hz i (by omega) (by omega)]; omega
theorem sm_comm (f : Nat → Nat → Int) (m : Nat) : ∀ n, sm n (fun i => sm m (fun j => f i j)) = sm m (fun j => sm n (fun i => f i j))
  | 0 => (sm_zero fun _ _ => rfl).symm
  | n + 1 => by simp only [sm]; rw [sm_comm f m n, ← sm_add]
theorem sm_nn {f : Nat → Int} {n : Nat} (h : ∀ i, i < n → 0 ≤ f i) : 0 ≤ sm n f := by
  have := sm_le (f := fun _ => 0) h
  rw [sm_zero fun _ _ => rfl] at this
  exact this
/-- What may go out of a set. -/
def outS (m : Nat) (p : Nat → Nat → Int) (S : Nat → Bool) : Int := sm m (fun i => if S i = true then sm m (fun j => if S j = true then 0 else p i j) else 0)
def innS (m : Nat) (p : Nat → Nat → Int) (S : Nat → Bool) : Int := sm m (fun i => sm m (fun j => if S i = true ∧ S j = true then p i j else 0))
theorem rows_split (m : Nat) (p : Nat → Nat → Int) (S : Nat → Bool) : sm m (fun i => if S i = true then sm m (p i) else 0) = outS m p S + innS m p S := by
  unfold outS innS
  rw [← sm_add]
  refine sm_congr fun i hi => ?_
  by_cases c : S i = true
  · simp only [c, if_true, true_and]
    rw [← sm_add]
    refine sm_congr fun j hj => ?_
    by_cases d : S j = true
    · simp [d]
    · simp [d]
  · rw [if_neg c, if_neg c, sm_zero fun j hj => if_neg (fun w => c w.1)]; rfl
theorem inn_sym {m : Nat} {p q : Nat → Nat → Int} (S : Nat → Bool) (h : ∀ i, i < m → ∀ j, j < m → p i j + p j i = q i j + q j i) : innS m p S = innS m q S := by
  have two : ∀ r : Nat → Nat → Int, innS m r S + innS m r S = sm m (fun i => sm m (fun j => if S i = true ∧ S j = true then r i j + r j i else 0)) := fun r => by
    have e : innS m r S = sm m (fun i => sm m (fun j => if S j = true ∧ S i = true then r j i else 0)) := by
      unfold innS; rw [sm_comm]
    rw [show innS m r S + innS m r S = innS m r S + sm m (fun i => sm m (fun j => if S j = true ∧ S i = true then r j i else 0)) by rw [← e]]
    unfold innS
    rw [← sm_add]
    refine sm_congr fun i hi => ?_
    rw [← sm_add]
    refine sm_congr fun j hj => ?_
    by_cases c : S i = true ∧ S j = true
    · rw [if_pos c, if_pos ⟨c.2, c.1⟩, if_pos c]
    · rw [if_neg c, if_neg (fun w => c ⟨w.2, w.1⟩), if_neg c]; rfl
  have a := two p
  have b := two q
  rw [sm_congr (g := fun i => sm m (fun j => if S i = true ∧ S j = true then q i j + q j i else 0)) fun i hi => sm_congr fun j hj => by rw [h i hi j hj]] at a
  omega
/-- What goes through is the same for each cut. -/
theorem cut_val {m : Nat} {p p0 : Nat → Nat → Int} {n : Int} (hm : 2 ≤ m) (hs : ∀ i, i < m → ∀ j, j < m → p i j + p j i = p0 i j + p0 j i)
    (hr : ∀ i, i < m → sm m (p i) = sm m (p0 i) + ((if i = 0 then - n else 0) + (if i = 1 then n else 0))) {S : Nat → Bool} (h0 : S 0 = true) (h1 : S 1 = false) : outS m p0 S = n + outS m p S := by
  have a := rows_split m p S
  have b := rows_split m p0 S
  have c := inn_sym S hs
  have e : sm m (fun i => if S i = true then sm m (p i) else 0) = sm m (fun i => if S i = true then sm m (p0 i) else 0) + - n := by
    have f : sm m (fun i => if S i = true then ((if i = 0 then - n else 0) + (if i = 1 then n else 0)) else 0) = - n := by
      rw [sm_one (k := 0) (by omega) fun i hi hne => ?_]
      · simp [h0]
      · by_cases w : i = 1
        · subst w; simp [h1]
        · simp [hne, w]
    rw [← f, ← sm_add]
    refine sm_congr fun i hi => ?_
    by_cases w : S i = true
    · rw [if_pos w, if_pos w, if_pos w, hr i hi]
    · rw [if_neg w, if_neg w, if_neg w]; rfl
  omega
theorem out_nn {m : Nat} {p : Nat → Nat → Int} (h : ∀ i, i < m → ∀ j, j < m → 0 ≤ p i j) (S : Nat → Bool) : 0 ≤ outS m p S := sm_nn fun i hi => by
  split
  · exact sm_nn fun j hj => by
      split
      · exact Int.le_refl _
      · exact h i hi j hj
  · exact Int.le_refl _
theorem out_zero {m : Nat} {p : Nat → Nat → Int} {S : Nat → Bool} (h : ∀ i, i < m → ∀ j, j < m → S i = true → S j = false → p i j = 0) : outS m p S = 0 := sm_zero fun i hi => by
  by_cases c : S i = true
  · rw [if_pos c]
    refine sm_zero fun j hj => ?_
    by_cases d : S j = true
    · rw [if_pos d]
    · rw [if_neg d]; exact h i hi j hj c (by simpa using d)
  · rw [if_neg c]
/-- A flow of n that cannot be made greater: the least cut's. -/
structure Flow (m : Nat) (p0 p : Nat → Nat → Int) (n : Int) : Prop where
  nn : ∀ i, i < m → ∀ j, j < m → 0 ≤ p i j
  sym : ∀ i, i < m → ∀ j, j < m → p i j + p j i = p0 i j + p0 j i
  row : ∀ i, i < m → sm m (p i) = sm m (p0 i) + ((if i = 0 then - n else 0) + (if i = 1 then n else 0))
def Least (m : Nat) (p0 : Nat → Nat → Int) (n : Int) : Prop := (∀ S : Nat → Bool, S 0 = true → S 1 = false → n ≤ outS m p0 S) ∧ ∃ S : Nat → Bool, S 0 = true ∧ S 1 = false ∧ outS m p0 S = n
theorem Flow.le {m : Nat} {p0 p : Nat → Nat → Int} {n : Int} (hm : 2 ≤ m) (h : Flow m p0 p n) (S : Nat → Bool) (h0 : S 0 = true) (h1 : S 1 = false) : n ≤ outS m p0 S := by
  rw [cut_val hm h.sym h.row h0 h1]
  have := out_nn h.nn S
  omega
theorem Flow.least {m : Nat} {p0 p : Nat → Nat → Int} {n : Int} (hm : 2 ≤ m) (h : Flow m p0 p n) {S : Nat → Bool} (h0 : S 0 = true) (h1 : S 1 = false) (hz : ∀ i, i < m → ∀ j, j < m → S i = true → S j = false → p i j = 0) : Least m p0 n := by
  refine ⟨fun T a b => h.le hm T a b, S, h0, h1, ?_⟩
  rw [cut_val hm h.sym h.row h0 h1, out_zero hz]; omega
theorem Flow.start {m : Nat} {p0 : Nat → Nat → Int} (h : ∀ i, i < m → ∀ j, j < m → 0 ≤ p0 i j) : Flow m p0 p0 0 := ⟨h, fun _ _ _ _ => rfl, fun i hi => by simp⟩
theorem Least.eq {m m' : Nat} {p q : Nat → Nat → Int} {n k : Int} (h : Least m p n) (h' : Least m' q k) (a : ∀ S : Nat → Bool, S 0 = true → S 1 = false → ∃ T : Nat → Bool, T 0 = true ∧ T 1 = false ∧ outS m' q T ≤ outS m p S)
    (b : ∀ S : Nat → Bool, S 0 = true → S 1 = false → ∃ T : Nat → Bool, T 0 = true ∧ T 1 = false ∧ outS m p T ≤ outS m' q S) : n = k := by
  obtain ⟨h1, S, s0, s1, s2⟩ := h
  obtain ⟨h2, T, t0, t1, t2⟩ := h'
  obtain ⟨U, u0, u1, u2⟩ := a S s0 s1
  obtain ⟨V, v0, v1, v2⟩ := b T t0 t1
  have := h1 V v0 v1
  have := h2 U u0 u1
  omega
end Go.SH

set_option linter.unusedSimpArgs false
set_option linter.unusedVariables false
namespace Go.SH
open Go Go.AX

/-- A square of numbers. -/
def en (X : List (List Int)) (i j : Nat) : Int := (X.getD i []).getD j 0
structure Sq (m : Nat) (X : List (List Int)) : Prop where
  len : X.length = m
  row : ∀ i, i < m → (X.getD i []).length = m
theorem rowGet {X : List (List Int)} {i : Nat} (R : List Int) (hi : i < X.length) (a : Nat) : (X.set i R).getD a [] = if a = i then R else X.getD a [] := by
  simp only [List.getD_eq_getElem?_getD, List.getElem?_set]
  by_cases e : i = a
  · subst e; simp [hi]
  · rw [if_neg e, if_neg (fun e' => e e'.symm)]
theorem numGet {l : List Int} {k : Nat} (v : Int) (hk : k < l.length) (j : Nat) : (l.set k v).getD j 0 = if j = k then v else l.getD j 0 := by
  simp only [List.getD_eq_getElem?_getD, List.getElem?_set]
  by_cases e : k = j
  · subst e; simp [hk]
  · rw [if_neg e, if_neg (fun e' => e e'.symm)]
theorem Sq.put {m : Nat} {X : List (List Int)} (h : Sq m X) {i j : Nat} (v : Int) (hi : i < m) : Sq m (X.set i ((X.getD i []).set j v)) := by
  refine ⟨by rw [List.length_set]; exact h.len, fun a ha => ?_⟩
  rw [rowGet _ (by rw [h.len]; exact hi)]
  by_cases e : a = i
  · rw [if_pos e, List.length_set]; exact h.row i hi
  · rw [if_neg e]; exact h.row a ha
theorem Sq.get {m : Nat} {X : List (List Int)} (h : Sq m X) {i j : Nat} (v : Int) (hi : i < m) (hj : j < m) (a b : Nat) : en (X.set i ((X.getD i []).set j v)) a b = if a = i ∧ b = j then v else en X a b := by
  unfold en
  rw [rowGet _ (by rw [h.len]; exact hi)]
  by_cases e : a = i
  · rw [if_pos e, numGet _ (by rw [h.row i hi]; exact hj)]
    by_cases e2 : b = j
    · rw [if_pos e2, if_pos ⟨e, e2⟩]
    · rw [if_neg e2, if_neg (fun w => e2 w.2), e]
  · rw [if_neg e, if_neg (fun w => e w.1)]
theorem zeros_sq (m k : Nat) (hk : k ≤ m) : ∀ a, a < k → (List.replicate k (List.replicate m (0 : Int))).getD a [] = List.replicate m 0 := fun a ha => by
  rw [List.getD_eq_getElem?_getD, List.getElem?_replicate, if_pos ha]; rfl
theorem zero_getD (m a : Nat) : (List.replicate m (0 : Int)).getD a 0 = 0 := by
  simp only [List.getD_eq_getElem?_getD, List.getElem?_replicate]; split <;> rfl
def bitZ (s v : Nat) : Int := if s.testBit v = true then 1 else 0
/-- The network: 0 to the entrances of 'from', an entrance to its exit, exits of 'to' to 1, exits to entrances along the edges (k vertices and l edges of it). -/
noncomputable def lay (E : List (Int × Int)) (s t k l i j : Nat) : Int :=
  open Classical in
  if i % 2 = 0 ∧ 2 ≤ i ∧ j = i + 1 ∧ i < 2 + 2 * k then 1
  else if i = 0 ∧ j % 2 = 0 ∧ 2 ≤ j ∧ j < 2 + 2 * k then bitZ s (j / 2 - 1)
  else if j = 1 ∧ i % 2 = 1 ∧ 3 ≤ i ∧ i < 3 + 2 * k then bitZ t (i / 2 - 1)
  else if ∃ e, e < l ∧ i = 3 + 2 * hA E e ∧ j = 2 + 2 * hB E e then 1
  else 0
theorem lay_zero (E : List (Int × Int)) (s t i j : Nat) : lay E s t 0 0 i j = 0 := by
  unfold lay
  rw [if_neg (by omega), if_neg (by omega), if_neg (by omega), if_neg (fun ⟨e, h, _⟩ => by omega)]
theorem lay_vert (E : List (Int × Int)) (s t k a b : Nat) : lay E s t (k + 1) 0 a b = if a = 3 + 2 * k ∧ b = 1 then bitZ t k else if a = 0 ∧ b = 2 + 2 * k then bitZ s k else if a = 2 + 2 * k ∧ b = 3 + 2 * k then 1 else lay E s t k 0 a b := by
  have hn : ¬ ∃ e, e < 0 ∧ a = 3 + 2 * hA E e ∧ b = 2 + 2 * hB E e := fun ⟨e, h, _⟩ => by omega
  by_cases c1 : a = 3 + 2 * k ∧ b = 1
  · rw [if_pos c1]; unfold lay
    rw [if_neg (by omega), if_neg (by omega), if_pos (by omega), show a / 2 - 1 = k by omega]
  · rw [if_neg c1]
    by_cases c2 : a = 0 ∧ b = 2 + 2 * k
    · rw [if_pos c2]; unfold lay
      rw [if_neg (by omega), if_pos (by omega), show b / 2 - 1 = k by omega]
    · rw [if_neg c2]
      by_cases c3 : a = 2 + 2 * k ∧ b = 3 + 2 * k
      · rw [if_pos c3]; unfold lay
        rw [if_pos (by omega)]
      · rw [if_neg c3]; unfold lay
        rw [if_neg hn]
        by_cases A : a % 2 = 0 ∧ 2 ≤ a ∧ b = a + 1 ∧ a < 2 + 2 * k
        · rw [if_pos A, if_pos (by omega)]
        · rw [if_neg A, if_neg (show ¬ (a % 2 = 0 ∧ 2 ≤ a ∧ b = a + 1 ∧ a < 2 + 2 * (k + 1)) by omega)]
          by_cases B : a = 0 ∧ b % 2 = 0 ∧ 2 ≤ b ∧ b < 2 + 2 * k
          · rw [if_pos B, if_pos (by omega)]
          · rw [if_neg B, if_neg (show ¬ (a = 0 ∧ b % 2 = 0 ∧ 2 ≤ b ∧ b < 2 + 2 * (k + 1)) by omega)]
            by_cases C : b = 1 ∧ a % 2 = 1 ∧ 3 ≤ a ∧ a < 3 + 2 * k
            · rw [if_pos C, if_pos (by omega)]
            · rw [if_neg C, if_neg (show ¬ (b = 1 ∧ a % 2 = 1 ∧ 3 ≤ a ∧ a < 3 + 2 * (k + 1)) by omega)]
theorem lay_edge (E : List (Int × Int)) (s t k l a b : Nat) : lay E s t k (l + 1) a b = if a = 3 + 2 * hA E l ∧ b = 2 + 2 * hB E l then 1 else lay E s t k l a b := by
  by_cases c : a = 3 + 2 * hA E l ∧ b = 2 + 2 * hB E l
  · rw [if_pos c]; unfold lay
    rw [if_neg (by omega), if_neg (by omega), if_neg (by omega), if_pos ⟨l, by omega, c⟩]
  · rw [if_neg c]; unfold lay
    have e : (∃ e, e < l + 1 ∧ a = 3 + 2 * hA E e ∧ b = 2 + 2 * hB E e) ↔ ∃ e, e < l ∧ a = 3 + 2 * hA E e ∧ b = 2 + 2 * hB E e := by
      constructor
      · rintro ⟨e, h1, h2⟩
        rcases Nat.lt_succ_iff_lt_or_eq.1 h1 with q | q
        · exact ⟨e, q, h2⟩
        · subst q; exact absurd h2 c
      · rintro ⟨e, h1, h2⟩; exact ⟨e, by omega, h2⟩
    simp only [e]
theorem lay_bd (E : List (Int × Int)) (s t k l a b : Nat) : 0 ≤ lay E s t k l a b ∧ lay E s t k l a b ≤ 1 := by
  have z : ∀ s v, 0 ≤ bitZ s v ∧ bitZ s v ≤ 1 := fun s v => by unfold bitZ; split <;> omega
  unfold lay
  split
  · omega
  · split
    · exact z _ _
    · split
      · exact z _ _
      · split <;> omega
theorem laid_spec {N : Nat} {E : List (Int × Int)} (h : CG N E) (s t : Nat) : Gets (links_laid N E (s : Int) (t : Int)) (fun p => Sq (2 + 2 * N) p ∧ ∀ i j, en p i j = lay E s t N E.length i j) := by
  have hn1 := h.n1
  have hn7 := h.n7
  have he8 := h.e8
  obtain ⟨ends, eq⟩ := h.ends
  unfold links_laid
  have hm : ((2 : Int) + 2 * (N : Int)).toNat = 2 + 2 * N := by omega
  simp only [hm]
  refine gChk ⟨⟨by omega, by omega⟩, ⟨by omega, by omega⟩, by omega, by omega⟩ ?_
  refine gBind (R := fun p => Sq (2 + 2 * N) p ∧ ∀ i j, en p i j = 0) (gFor (2 + 2 * N) (fun k (x : List (List Int) × Int) => x.2 = (k : Int) ∧ x.1 = List.replicate k (List.replicate (2 + 2 * N) 0)) (Nat.zero_le _) ⟨rfl, rfl⟩ ?_) ?_
  · rintro k ⟨_, _⟩ hk ⟨rfl, rfl⟩
    simp only [toNat_nat, List.length_replicate]
    refine gIte (fun h1 => gChk ⟨⟨by omega, by omega⟩, by omega, by omega⟩ (gChk trivial (gChk ⟨by omega, by omega⟩ (gSome ⟨by omega, by simp, ?_⟩)))) fun h1 => gSome ?_
    · show _ ++ [_] = _
      rw [List.replicate_succ']
    · have e : k = 2 + 2 * N := by omega
      subst e
      refine ⟨⟨by simp, fun i hi => by rw [zeros_sq _ _ (Nat.le_refl _) i hi]; simp⟩, fun i j => ?_⟩
      unfold en
      by_cases c : i < 2 + 2 * N
      · rw [zeros_sq _ _ (Nat.le_refl _) i c]; exact zero_getD _ _
      · rw [List.getD_eq_getElem?_getD (l := List.replicate _ (List.replicate _ _)), List.getElem?_replicate, if_neg c]; rfl
  · rintro p0 ⟨hp0, hp0'⟩
    refine gChk hp0.len.symm ?_
    refine gBind (R := fun p => Sq (2 + 2 * N) p ∧ ∀ i j, en p i j = lay E s t N 0 i j) (gFor N (fun k (x : List (List Int) × Int) => x.2 = (k : Int) ∧ Sq (2 + 2 * N) x.1 ∧ ∀ i j, en x.1 i j = lay E s t k 0 i j) (Nat.zero_le _) ⟨rfl, hp0, fun i j => by rw [lay_zero]; exact hp0' i j⟩ ?_) ?_
    · rintro k ⟨p, _⟩ hk ⟨rfl, hp, hp'⟩
      dsimp only at hp hp' ⊢
      refine gIte (fun h1 => ?_) fun h1 => gSome (by rw [show N = k by omega] at hp ⊢; exact ⟨hp, hp'⟩)
      have hkN : k < N := by omega
      have e2 : ((2 : Int) + 2 * (k : Int)).toNat = 2 + 2 * k := by omega
      have e3 : ((3 : Int) + 2 * (k : Int)).toNat = 3 + 2 * k := by omega
      simp only [e2, e3, toNat_nat]
      have b1 := bit_nat s k
      have b2 := bit_nat t k
      rw [toNat_nat] at b1 b2
      rw [b1, b2]
      have hl := hp.len
      have r2 := hp.row (2 + 2 * k) (by omega)
      have r3 := hp.row (3 + 2 * k) (by omega)
      have r0 := hp.row 0 (by omega)
      have q1 := hp.put (i := 2 + 2 * k) (j := 3 + 2 * k) 1 (by omega)
      have q2 := q1.put (i := 0) (j := 2 + 2 * k) (if s.testBit k = true then 1 else 0) (by omega)
      have q3 := q2.put (i := 3 + 2 * k) (j := 1) (if t.testBit k = true then 1 else 0) (by omega)
      refine gChk ⟨⟨by omega, by omega⟩, ⟨by omega, by omega⟩, ⟨by omega, by omega⟩, ⟨by omega, by omega⟩, by omega, by omega⟩ (gChk ⟨⟨by omega, by omega⟩, ⟨by omega, by omega⟩, ⟨by omega, by omega⟩, by omega, by omega, by omega⟩ (gChk ⟨⟨by omega, by omega⟩, ⟨by omega, by omega⟩, ⟨by omega, by omega⟩, by omega, by omega⟩ (gChk ⟨by omega, by omega⟩ (gSome ⟨hkN, by simp, q3, fun a b => ?_⟩))))
      show en (List.set _ _ _) a b = _
      rw [q2.get _ (by omega) (by omega), q1.get _ (by omega) (by omega), hp.get _ (by omega) (by omega), hp', lay_vert]
      rfl
    · rintro p1 ⟨hp1, hp1'⟩
      refine gBind (R := fun p => Sq (2 + 2 * N) p ∧ ∀ i j, en p i j = lay E s t N E.length i j) (gFor E.length (fun l (x : List (List Int) × Int) => x.2 = (l : Int) ∧ Sq (2 + 2 * N) x.1 ∧ ∀ i j, en x.1 i j = lay E s t N l i j) (Nat.zero_le _) ⟨rfl, hp1, hp1'⟩ ?_) fun p hp => gSome hp
      rintro l ⟨p, _⟩ hl ⟨rfl, hp, hp'⟩
      dsimp only at hp hp' ⊢
      simp only [toNat_nat]
      refine gIte (fun h1 => ?_) fun h1 => gSome (by rw [show E.length = l by omega]; exact ⟨hp, hp'⟩)
      have hlE : l < E.length := by omega
      obtain ⟨ea, eb⟩ := eq l hlE
      obtain ⟨la, lb⟩ := ends l hlE
      have e2 : ((2 : Int) + 2 * ((hB E l : Nat) : Int)).toNat = 2 + 2 * hB E l := by omega
      have e3 : ((3 : Int) + 2 * ((hA E l : Nat) : Int)).toNat = 3 + 2 * hA E l := by omega
      simp only [ea, eb, e2, e3]
      have hl := hp.len
      have r3 := hp.row (3 + 2 * hA E l) (by omega)
      refine gChk ⟨by omega, by omega⟩ (gChk ⟨⟨by omega, by omega⟩, ⟨by omega, by omega⟩, ⟨by omega, by omega⟩, ⟨by omega, by omega⟩, ⟨by omega, by omega⟩, by omega, by omega⟩ (gSome ⟨hlE, by simp, hp.put _ (by omega), fun a b => ?_⟩))
      show en (List.set _ _ _) a b = _
      rw [hp.get _ (by omega) (by omega), hp', lay_edge]
end Go.SH

set_option linter.unusedSimpArgs false
set_option linter.unusedVariables false
namespace Go.SH
open Go Go.AX

theorem nodup_le : ∀ (m : Nat) (Q : List Nat), Q.Nodup → (∀ x, x ∈ Q → x < m) → Q.length ≤ m
  | 0, Q, _, h => by
    cases Q with
    | nil => exact Nat.le_refl _
    | cons a l => exact absurd (h a List.mem_cons_self) (by omega)
  | m + 1, Q, hn, h => by
    have h1 := nodup_le m (Q.erase m) (hn.erase m) fun x hx => by
      have h2 := hn.mem_erase_iff.1 hx
      have := h x h2.2
      have := h2.1
      omega
    have h2 := List.length_erase (a := m) (l := Q)
    split at h2 <;> omega
theorem getD_mem {Q : List Nat} {t : Nat} (h : t < Q.length) : Q.getD t 0 ∈ Q := by
  rw [List.getD_eq_getElem?_getD, List.getElem?_eq_getElem h]; exact List.getElem_mem h
theorem getD_inj {Q : List Nat} (hn : Q.Nodup) {s t : Nat} (hs : s < Q.length) (ht : t < Q.length) (e : Q.getD s 0 = Q.getD t 0) : s = t := by
  rw [List.getD_eq_getElem?_getD, List.getD_eq_getElem?_getD, List.getElem?_eq_getElem hs, List.getElem?_eq_getElem ht] at e
  have hp := List.pairwise_iff_getElem.1 hn
  rcases Nat.lt_trichotomy s t with c | c | c
  · exact absurd e (hp s t hs ht c)
  · exact c
  · exact absurd e.symm (hp t s ht hs c)
theorem mem_getD' {Q : List Nat} {x : Nat} (h : x ∈ Q) : ∃ t, t < Q.length ∧ Q.getD t 0 = x := by
  obtain ⟨t, ht, rfl⟩ := List.getElem_of_mem h
  exact ⟨t, ht, by rw [List.getD_eq_getElem?_getD, List.getElem?_eq_getElem ht]; rfl⟩
theorem snocN_lt {Q : List Nat} {x t : Nat} (h : t < Q.length) : (Q ++ [x]).getD t 0 = Q.getD t 0 := by
  rw [List.getD_eq_getElem?_getD, List.getElem?_append_left h, ← List.getD_eq_getElem?_getD]
theorem snocN_at {Q : List Nat} {x t : Nat} (h : t = Q.length) : (Q ++ [x]).getD t 0 = x := by
  subst h; rw [List.getD_eq_getElem?_getD, List.getElem?_append_right (Nat.le_refl _), Nat.sub_self]; rfl
theorem sm_put {m j : Nat} (hj : j < m) {f g : Nat → Int} (h : ∀ i, i < m → i ≠ j → f i = g i) : sm m f = sm m g + (f j - g j) := by
  have e : sm m f = sm m (fun i => g i + (if i = j then f j - g j else 0)) := sm_congr fun i hi => by
    by_cases c : i = j
    · subst c; rw [if_pos rfl]; omega
    · rw [if_neg c, h i hi c]; omega
  rw [e, sm_add, sm_one (f := fun i => if i = j then f j - g j else 0) hj fun i hi hne => if_neg hne, if_pos rfl]
/-- What is known in the search: who was met, in order, and from whom. -/
structure Met (m : Nat) (X : List (List Int)) (c : List Int) (Q : List Nat) : Prop where
  len : c.length = m
  nd : Q.Nodup
  lt : ∀ x, x ∈ Q → x < m
  pos : 0 < Q.length
  fst : Q.getD 0 0 = 0
  mem : ∀ i, i < m → (0 ≤ c.getD i 0 ↔ i ∈ Q)
  par : ∀ t, 0 < t → t < Q.length → ∃ s, s < t ∧ c.getD (Q.getD t 0) 0 = ((Q.getD s 0 : Nat) : Int) ∧ 0 < en X (Q.getD s 0) (Q.getD t 0)
theorem Met.add {m : Nat} {X : List (List Int)} {c : List Int} {Q : List Nat} (h : Met m X c Q) {k j : Nat} (hk : k < Q.length) (hj : j < m) (he : 0 < en X (Q.getD k 0) j) (hn : c.getD j 0 < 0) : Met m X (c.set j ((Q.getD k 0 : Nat) : Int)) (Q ++ [j]) := by
  have hnot : j ∉ Q := fun w => by have := (h.mem j hj).2 w; omega
  have hg := fun i => numGet (((Q.getD k 0 : Nat) : Int)) (show j < c.length by rw [h.len]; exact hj) i
  refine ⟨by rw [List.length_set]; exact h.len, ?_, fun x hx => ?_, by rw [List.length_append]; simp, by rw [snocN_lt h.pos]; exact h.fst, fun i hi => ?_, fun t h0 ht => ?_⟩
  · rw [List.nodup_append]
    exact ⟨h.nd, by simp, fun a ha b hb => by rw [List.mem_singleton] at hb; subst hb; exact fun e => hnot (e ▸ ha)⟩
  · rcases List.mem_append.1 hx with w | w
    · exact h.lt x w
    · rw [List.mem_singleton] at w; omega
  · rw [hg, List.mem_append, List.mem_singleton]
    by_cases e : i = j
    · rw [if_pos e]; exact ⟨fun _ => .inr e, fun _ => by omega⟩
    · rw [if_neg e, h.mem i hi]; exact ⟨.inl, fun w => w.resolve_right e⟩
  · rw [List.length_append] at ht
    simp only [List.length_cons, List.length_nil] at ht
    by_cases e : t = Q.length
    · refine ⟨k, by omega, ?_, ?_⟩
      · rw [snocN_at e, hg, if_pos rfl, snocN_lt hk]
      · rw [snocN_at e, snocN_lt hk]; exact he
    · obtain ⟨s, s1, s2, s3⟩ := h.par t h0 (by omega)
      have hne : Q.getD t 0 ≠ j := fun w => hnot (w ▸ getD_mem (by omega))
      refine ⟨s, s1, ?_, ?_⟩
      · rw [snocN_lt (by omega), hg, if_neg hne, snocN_lt (by omega)]; exact s2
      · rw [snocN_lt (by omega), snocN_lt (by omega)]; exact s3
theorem more_spec {m : Nat} {X : List (List Int)} (hX : Sq m X) (hm : 2 ≤ m) (hm16 : m ≤ 16) (hnn : ∀ i, i < m → ∀ j, j < m → 0 ≤ en X i j) (hsy : ∀ i, i < m → ∀ j, j < m → en X i j + en X j i ≤ 2) :
    Gets (links_pipes_more X) (fun r => (r.1 = false ∧ r.2 = X ∧ ∃ S : Nat → Bool, S 0 = true ∧ S 1 = false ∧ ∀ i, i < m → ∀ j, j < m → S i = true → S j = false → en X i j = 0) ∨
      (r.1 = true ∧ Sq m r.2 ∧ (∀ i, i < m → ∀ j, j < m → 0 ≤ en r.2 i j) ∧ (∀ i, i < m → ∀ j, j < m → en r.2 i j + en r.2 j i = en X i j + en X j i) ∧ ∀ i, i < m → sm m (en r.2 i) = sm m (en X i) + ((if i = 0 then -1 else 0) + (if i = 1 then 1 else 0)))) := by
  have hlX := hX.len
  unfold links_pipes_more
  simp only [hlX, toNat_nat]
  refine gChk ⟨by omega, by omega⟩ ?_
  refine gBind (R := fun c : List Int => c.length = m ∧ ∀ i, i < m → c.getD i 0 = -1) (gFor m (fun k (x : List Int × Int) => x.2 = (k : Int) ∧ x.1.length = m ∧ ∀ i, i < k → x.1.getD i 0 = -1) (Nat.zero_le _) ⟨rfl, by simp, none_all⟩ ?_) ?_
  · rintro k ⟨c, _⟩ hk ⟨rfl, h1, h2⟩
    dsimp only at h1 h2 ⊢
    simp only [toNat_nat, List.length_replicate]
    refine gIte (fun h3 => gChk ⟨by omega, by omega⟩ (gSome ⟨by omega, by simp, by simpa using h1, fun i hi => ?_⟩)) fun h3 => gSome ⟨h1, fun i hi => h2 i (by omega)⟩
    rw [numGet _ (by omega)]
    by_cases e : i = k
    · rw [if_pos e]
    · rw [if_neg e]; exact h2 i (by omega)
  rintro c0 ⟨hc1, hc2⟩
  refine gChk ⟨by omega, by omega⟩ ?_
  have start : Met m X (c0.set 0 0) [0] := by
    have hg := fun i => numGet (0 : Int) (show 0 < c0.length by omega) i
    refine ⟨by simpa using hc1, by simp, fun x hx => by simp at hx; omega, by simp, rfl, fun i hi => ?_, fun t h0 ht => by simp at ht; omega⟩
    rw [hg, List.mem_singleton]
    by_cases e : i = 0
    · rw [if_pos e]; exact ⟨fun _ => e, fun _ => Int.le_refl _⟩
    · rw [if_neg e, hc2 i hi]; exact ⟨fun w => by omega, fun w => absurd w e⟩
  refine gBind (R := fun c : List Int => ∃ Q, Met m X c Q ∧ (0 ≤ c.getD 1 0 ∨ ∀ t, t < Q.length → ∀ j, j < m → 0 < en X (Q.getD t 0) j → j ∈ Q))
    (gFor m (fun k (x : List Int × List Int × Int) => x.2.2 = (k : Int) ∧ ∃ Q, x.2.1 = cs Q ∧ Met m X x.1 Q ∧ k ≤ Q.length ∧ ∀ t, t < k → ∀ j, j < m → 0 < en X (Q.getD t 0) j → j ∈ Q) (Nat.zero_le _) ⟨rfl, [0], rfl, start, Nat.zero_le _, none_all⟩ ?_) ?_
  · rintro k ⟨c, _, _⟩ hk ⟨rfl, Q, rfl, hM, hkQ, hcl⟩
    dsimp only at hM ⊢
    have hlc := hM.len
    have hQm := nodup_le m Q hM.nd hM.lt
    simp only [toNat_nat, cs_len, cs_get]
    refine gChk (fun _ => ⟨by omega, by omega⟩) ?_
    refine gIte (fun h1 => ?_) fun h1 => gSome ⟨Q, hM, ?_⟩
    rotate_left
    · by_cases w : 0 ≤ c.getD 1 0
      · exact .inl w
      · exact .inr fun t ht => hcl t (by omega)
    have hk1 : k < Q.length := by omega
    have hu := hM.lt _ (getD_mem hk1)
    have hrow := hX.row _ hu
    refine gChk ⟨⟨by omega, by omega⟩, by omega, by omega⟩ ?_
    obtain ⟨u, hue⟩ : ∃ u, u = Q.getD k 0 := ⟨_, rfl⟩
    rw [← hue] at hu hrow ⊢
    refine gBind (R := fun z : List Int × List Int => ∃ Q', z.2 = cs Q' ∧ Met m X z.1 Q' ∧ k < Q'.length ∧ (∀ t, t ≤ k → Q'.getD t 0 = Q.getD t 0) ∧ (∀ x, x ∈ Q → x ∈ Q') ∧ ∀ j, j < m → 0 < en X u j → j ∈ Q')
      (gFor m (fun j (x : List Int × List Int × Int) => x.2.2 = (j : Int) ∧ ∃ Q', x.2.1 = cs Q' ∧ Met m X x.1 Q' ∧ k < Q'.length ∧ (∀ t, t ≤ k → Q'.getD t 0 = Q.getD t 0) ∧ (∀ x, x ∈ Q → x ∈ Q') ∧ ∀ b, b < j → 0 < en X u b → b ∈ Q') (Nat.zero_le _) ⟨rfl, Q, rfl, hM, hk1, fun t _ => rfl, fun x hx => hx, none_all⟩ ?_) ?_
    · rintro j ⟨c', _, _⟩ hj ⟨rfl, Q', rfl, hM', hkQ', hsame, hsub, hcl'⟩
      dsimp only at hM' ⊢
      have hlc' := hM'.len
      have hQm' := nodup_le m Q' hM'.nd hM'.lt
      have ee : (X.getD u []).getD j 0 = en X u j := rfl
      simp only [toNat_nat, cs_len, cs_get, hrow, ee]
      refine gIte (fun h2 => ?_) fun h2 => gSome ⟨Q', rfl, hM', hkQ', hsame, hsub, fun b hb => hcl' b (by omega)⟩
      have hjm : j < m := by omega
      refine gChk ⟨by omega, by omega⟩ (gChk (fun _ => ⟨by omega, by omega⟩) ?_)
      have hku : Q'.getD k 0 = u := by rw [hsame k (Nat.le_refl _), hue]
      refine gIte (fun h3 => ?_) fun h3 => gChk ⟨by omega, by omega⟩ (gSome ⟨hjm, by simp, Q', rfl, hM', hkQ', hsame, hsub, step_all hcl' fun w => ?_⟩)
      · refine gChk ⟨⟨by omega, by omega⟩, by omega, by omega⟩ (gChk (by rw [List.length_append, cs_len]; simp; omega) (gChk ⟨by omega, by omega⟩ (gSome ⟨hjm, by simp, Q' ++ [j], cs_app _ _, hM'.add hkQ' hjm (by rw [hku]; exact h3.1) h3.2, by rw [List.length_append]; omega, fun t ht => ?_, fun x hx => List.mem_append_left _ (hsub x hx), step_all (fun b hb w => List.mem_append_left _ (hcl' b hb w)) fun _ => List.mem_append_right _ (List.mem_singleton.2 rfl)⟩)))
        rw [snocN_lt (by omega)]; exact hsame t ht
      · exact (hM'.mem j hjm).1 (by omega)
    · rintro ⟨c', _⟩ ⟨Q', rfl, hM', hkQ', hsame, hsub, hcl'⟩
      refine gChk ⟨by omega, by omega⟩ (gSome ⟨by omega, by simp, Q', rfl, hM', hkQ', fun t ht j hj w => ?_⟩)
      rcases Nat.lt_succ_iff_lt_or_eq.1 ht with q | q
      · rw [hsame t (by omega)] at w; exact hsub _ (hcl t q j hj w)
      · rw [q, hsame k (Nat.le_refl _), ← hue] at w; exact hcl' j hj w
  rintro c ⟨Q, hM, hend⟩
  have hlc := hM.len
  refine gChk ⟨by omega, by omega⟩ ?_
  refine gIte (fun h1 => gSome (.inl ⟨rfl, rfl, fun i => decide (i ∈ Q), ?_, ?_, fun i hi j hj a b => ?_⟩)) fun h1 => ?_
  · exact decide_eq_true (by have := getD_mem hM.pos; rwa [hM.fst] at this)
  · exact decide_eq_false fun w => by have := (hM.mem 1 (by omega)).2 w; omega
  · have hcl := hend.resolve_left (by omega)
    obtain ⟨t, t1, rfl⟩ := mem_getD' (of_decide_eq_true a)
    have h2 : ¬ 0 < en X (Q.getD t 0) j := fun w => (of_decide_eq_false b) (hcl t t1 j hj w)
    have := hnn _ hi j hj
    omega
  have h1Q : 1 ∈ Q := (hM.mem 1 (by omega)).1 (by omega)
  obtain ⟨t0, ht0, ht1⟩ := mem_getD' h1Q
  have hQm := nodup_le m Q hM.nd hM.lt
  refine gBind (R := fun q => Sq m q ∧ (∀ i, i < m → ∀ j, j < m → 0 ≤ en q i j) ∧ (∀ i, i < m → ∀ j, j < m → en q i j + en q j i = en X i j + en X j i) ∧ ∀ i, i < m → sm m (en q i) = sm m (en X i) + ((if i = 0 then -1 else 0) + (if i = 1 then 1 else 0)))
    (gFor Q.length (fun k (x : List (List Int) × Int) => ∃ t, t + k < Q.length ∧ x.2 = ((Q.getD t 0 : Nat) : Int) ∧ Sq m x.1 ∧ (∀ i, i < m → ∀ j, j < m → 0 ≤ en x.1 i j) ∧ (∀ i, i < m → ∀ j, j < m → en x.1 i j + en x.1 j i = en X i j + en X j i) ∧ (∀ s, s ≤ t → ∀ i, i < m → en X i (Q.getD s 0) ≤ en x.1 i (Q.getD s 0)) ∧
      ∀ i, i < m → sm m (en x.1 i) = sm m (en X i) + ((if i = Q.getD t 0 then -1 else 0) + (if i = 1 then 1 else 0))) (Nat.zero_le _)
      ⟨t0, by omega, by rw [ht1]; rfl, hX, hnn, fun i _ j _ => rfl, fun s _ i _ => Int.le_refl _, fun i hi => by dsimp only; rw [ht1]; split <;> omega⟩ ?_) fun q hq => gSome (.inr ⟨rfl, hq⟩)
  rintro k ⟨q, _⟩ hk ⟨t, htk, rfl, hq, hqn, hqs, hqm, hqr⟩
  dsimp only at hq hqn hqs hqm hqr ⊢
  refine gIte (fun h2 => ?_) fun h2 => gSome ⟨hq, hqn, hqs, fun i hi => by rw [hqr i hi, show Q.getD t 0 = 0 by omega]⟩
  have htQ : t < Q.length := by omega
  have ht0' : 0 < t := by
    rcases Nat.eq_zero_or_pos t with w | w
    · subst w; exact absurd (by rw [hM.fst]; rfl) h2
    · exact w
  obtain ⟨s, s1, s2, s3⟩ := hM.par t ht0' htQ
  have hsQ : s < Q.length := by omega
  have hwm := hM.lt _ (getD_mem htQ)
  have hum := hM.lt _ (getD_mem hsQ)
  have hne : Q.getD s 0 ≠ Q.getD t 0 := fun e => by have := getD_inj hM.nd hsQ htQ e; omega
  have hmono := hqm t (Nat.le_refl _) _ hum
  have hinj : ∀ r, r ≤ s → Q.getD r 0 ≠ Q.getD t 0 := fun r hr e => by have := getD_inj hM.nd (by omega) htQ e; omega
  obtain ⟨w, hw⟩ : ∃ w, w = Q.getD t 0 := ⟨_, rfl⟩
  obtain ⟨u, hu⟩ : ∃ u, u = Q.getD s 0 := ⟨_, rfl⟩
  rw [← hw] at hwm hne s2 s3 hmono h2 hqr hinj ⊢
  rw [← hu] at hum hne s2 s3 hmono
  simp only [s2, toNat_nat]
  have hl := hq.len
  have ru := hq.row u hum
  have rw' := hq.row w hwm
  have e1 : (q.getD u []).getD w 0 = en q u w := rfl
  have hq1 := hq.put (i := u) (j := w) (en q u w - 1) hum
  have hq1g := hq.get (i := u) (j := w) (en q u w - 1) hum hwm
  simp only [e1]
  obtain ⟨q1, hq1e⟩ : ∃ q1, q1 = q.set u ((q.getD u []).set w (en q u w - 1)) := ⟨_, rfl⟩
  rw [← hq1e] at hq1 hq1g ⊢
  have e2 : (q1.getD w []).getD u 0 = en q w u := by
    show en q1 w u = _
    rw [hq1g, if_neg (fun z => hne z.1.symm)]
  simp only [e2]
  have hq2 := hq1.put (i := w) (j := u) (en q w u + 1) hwm
  have hq2g : ∀ a b, en (q1.set w ((q1.getD w []).set u (en q w u + 1))) a b = if a = w ∧ b = u then en q w u + 1 else if a = u ∧ b = w then en q u w - 1 else en q a b := fun a b => by
    rw [hq1.get _ hwm hum, hq1g]
  have l1 := hq1.len
  have p1 := hqn u hum w hwm
  have p2 := hqn w hwm u hum
  have p3 := hqs u hum w hwm
  have p4 := hsy u hum w hwm
  refine gChk ⟨⟨by omega, by omega⟩, ⟨by omega, by omega⟩, ⟨by omega, by rw [ru]; omega⟩, by omega, by omega⟩ (gChk ⟨⟨by omega, by omega⟩, ⟨by omega, by omega⟩, ⟨by omega, by rw [rw']; omega⟩, by omega, by omega⟩ (gChk ⟨by omega, by omega⟩ (gSome ⟨by omega, s, by omega, by rw [hu], hq2, fun a ha b hb => ?_, fun a ha b hb => ?_, fun r hr a ha => ?_, fun a ha => ?_⟩)))
  · rw [hq2g]
    split
    · omega
    · split
      · omega
      · exact hqn a ha b hb
  · rw [hq2g, hq2g, ← hqs a ha b hb]
    by_cases c1 : a = w ∧ b = u
    · obtain ⟨rfl, rfl⟩ := c1
      rw [if_pos ⟨rfl, rfl⟩, if_neg (fun z => hne z.1), if_pos ⟨rfl, rfl⟩]; omega
    · by_cases c2 : a = u ∧ b = w
      · obtain ⟨rfl, rfl⟩ := c2
        rw [if_neg c1, if_pos ⟨rfl, rfl⟩, if_pos ⟨rfl, rfl⟩]; omega
      · rw [if_neg c1, if_neg c2, if_neg (fun z => c2 ⟨z.2, z.1⟩), if_neg (fun z => c1 ⟨z.2, z.1⟩)]
  · have := hqm r (by omega) a ha
    have hnw := hinj r hr
    rw [hq2g]
    by_cases c1 : a = w ∧ Q.getD r 0 = u
    · rw [if_pos c1]; rw [c1.1, c1.2] at *; omega
    · rw [if_neg c1, if_neg (fun z => hnw z.2)]; exact this
  · have hr0 := hqr a ha
    dsimp only
    by_cases c1 : a = w
    · have := sm_put (m := m) (j := u) hum (f := en (q1.set w ((q1.getD w []).set u (en q w u + 1))) a) (g := en q a) fun i hi hn => by
        rw [hq2g, if_neg (fun z => hn z.2), if_neg (fun z => hne (z.1.symm.trans c1))]
      have x1 : (if a = u then (-1 : Int) else 0) = 0 := if_neg fun z => hne (z.symm.trans c1)
      have x2 : (if a = w then (-1 : Int) else 0) = -1 := if_pos c1
      have x3 : en q a u = en q w u := by rw [c1]
      rw [this, hq2g, if_pos ⟨c1, rfl⟩, hr0, ← hu, x1, x2, x3]; omega
    · by_cases c2 : a = u
      · have := sm_put (m := m) (j := w) hwm (f := en (q1.set w ((q1.getD w []).set u (en q w u + 1))) a) (g := en q a) fun i hi hn => by
          rw [hq2g, if_neg (fun z => c1 z.1), if_neg (fun z => hn z.2)]
        have x1 : (if a = u then (-1 : Int) else 0) = -1 := if_pos c2
        have x2 : (if a = w then (-1 : Int) else 0) = 0 := if_neg c1
        have x3 : en q a w = en q u w := by rw [c2]
        rw [this, hq2g, if_neg (fun z => c1 z.1), if_pos ⟨c2, rfl⟩, hr0, ← hu, x1, x2, x3]; omega
      · have : sm m (en (q1.set w ((q1.getD w []).set u (en q w u + 1))) a) = sm m (en q a) := sm_congr fun i hi => by
          rw [hq2g, if_neg (fun z => c1 z.1), if_neg (fun z => c2 z.1)]
        have x1 : (if a = u then (-1 : Int) else 0) = 0 := if_neg c2
        have x2 : (if a = w then (-1 : Int) else 0) = 0 := if_neg c1
        rw [this, hr0, ← hu, x1, x2]
end Go.SH

set_option linter.unusedSimpArgs false
set_option linter.unusedVariables false
namespace Go.SH
open Go Go.AX

def ph (i : Nat) : Nat := if i % 2 = 0 then i + 1 else i - 1
theorem ph_ph (i : Nat) : ph (ph i) = i := by unfold ph; split <;> split <;> omega
theorem ph_lt {q i : Nat} (h : i < 2 * q) : ph i < 2 * q := by unfold ph; split <;> omega
theorem sm_ph (f : Nat → Int) : ∀ q, sm (2 * q) (fun i => f (ph i)) = sm (2 * q) f
  | 0 => rfl
  | q + 1 => by
    have e : 2 * (q + 1) = 2 * q + 1 + 1 := by omega
    rw [e]
    show sm (2 * q) (fun i => f (ph i)) + f (ph (2 * q)) + f (ph (2 * q + 1)) = sm (2 * q) f + f (2 * q) + f (2 * q + 1)
    rw [sm_ph f q, show ph (2 * q) = 2 * q + 1 by unfold ph; rw [if_pos (by omega)], show ph (2 * q + 1) = 2 * q by unfold ph; rw [if_neg (by omega)]; omega]
    omega
theorem out_turn {q : Nat} {p r : Nat → Nat → Int} (h : ∀ i, i < 2 * q → ∀ j, j < 2 * q → r (ph j) (ph i) = p i j) (S : Nat → Bool) : outS (2 * q) r (fun x => !(S (ph x))) = outS (2 * q) p S := by
  unfold outS
  rw [← sm_ph]
  have e : ∀ (g : Nat → Nat → Int), sm (2 * q) (fun i => if S i = true then sm (2 * q) (fun j => if S j = true then 0 else g i j) else 0) = sm (2 * q) (fun i => sm (2 * q) (fun j => if S i = true ∧ S j = false then g i j else 0)) := fun g => sm_congr fun i _ => by
    by_cases c : S i = true
    · rw [if_pos c]
      exact sm_congr fun j _ => by cases d : S j <;> simp [c, d]
    · rw [if_neg c, sm_zero fun j _ => if_neg fun w => c w.1]
  rw [e p, sm_comm]
  refine sm_congr fun i hi => ?_
  simp only [ph_ph]
  by_cases c : S i = true
  · rw [if_neg (by simp [c]), sm_zero fun j _ => if_neg fun w => by rw [c] at w; cases w.2]
  · have c' : S i = false := by simpa using c
    rw [if_pos (by simp [c']), ← sm_ph]
    refine sm_congr fun j hj => ?_
    simp only [ph_ph]
    rw [h j hj i hi]
    cases d : S j <;> simp [c', d]
theorem lay_turn {E E' : List (Int × Int)} (hl : E'.length = E.length) (hab : ∀ k, k < E.length → hA E' k = hB E k ∧ hB E' k = hA E k) (s t N i j : Nat) : lay E' t s N E'.length (ph j) (ph i) = lay E s t N E.length i j := by
  have hD : (∃ e, e < E'.length ∧ ph j = 3 + 2 * hA E' e ∧ ph i = 2 + 2 * hB E' e) ↔ ∃ e, e < E.length ∧ i = 3 + 2 * hA E e ∧ j = 2 + 2 * hB E e := by
    rw [hl]
    refine exists_congr fun e => and_congr_right fun he => ?_
    obtain ⟨a, b⟩ := hab e he
    rw [a, b]
    unfold ph
    split <;> split <;> omega
  have hA' : (ph j % 2 = 0 ∧ 2 ≤ ph j ∧ ph i = ph j + 1 ∧ ph j < 2 + 2 * N) ↔ (i % 2 = 0 ∧ 2 ≤ i ∧ j = i + 1 ∧ i < 2 + 2 * N) := by unfold ph; split <;> split <;> omega
  have hB' : (ph j = 0 ∧ ph i % 2 = 0 ∧ 2 ≤ ph i ∧ ph i < 2 + 2 * N) ↔ (j = 1 ∧ i % 2 = 1 ∧ 3 ≤ i ∧ i < 3 + 2 * N) := by unfold ph; split <;> split <;> omega
  have hC' : (ph i = 1 ∧ ph j % 2 = 1 ∧ 3 ≤ ph j ∧ ph j < 3 + 2 * N) ↔ (i = 0 ∧ j % 2 = 0 ∧ 2 ≤ j ∧ j < 2 + 2 * N) := by unfold ph; split <;> split <;> omega
  unfold lay
  simp only [hA', hB', hC', hD]
  by_cases A : i % 2 = 0 ∧ 2 ≤ i ∧ j = i + 1 ∧ i < 2 + 2 * N
  · rw [if_pos A, if_pos A]
  · rw [if_neg A, if_neg A]
    by_cases B : i = 0 ∧ j % 2 = 0 ∧ 2 ≤ j ∧ j < 2 + 2 * N
    · rw [if_neg (show ¬ (j = 1 ∧ i % 2 = 1 ∧ 3 ≤ i ∧ i < 3 + 2 * N) by omega), if_pos B, if_pos B, show ph j / 2 - 1 = j / 2 - 1 by unfold ph; split <;> omega]
    · by_cases C : j = 1 ∧ i % 2 = 1 ∧ 3 ≤ i ∧ i < 3 + 2 * N
      · simp only [if_neg B, if_pos C, show ph i / 2 - 1 = i / 2 - 1 by unfold ph; split <;> omega]
      · simp only [if_neg B, if_neg C]
theorem bit_mono {s x v : Nat} : bitZ s v ≤ bitZ (s ||| 2 ^ x) v ∧ bitZ (s ||| 2 ^ x) v ≤ bitZ s v + (if v = x then 1 else 0) := by
  unfold bitZ
  rw [Nat.testBit_or, testBit_pow]
  by_cases c : s.testBit v = true
  · simp only [c, Bool.true_or, if_true]; split <;> omega
  · by_cases d : x = v
    · subst d; simp [c]
    · simp [c, d, Ne.symm d]
theorem lay_add (E : List (Int × Int)) (s t x k l i j : Nat) : lay E s t k l i j ≤ lay E (s ||| 2 ^ x) t k l i j ∧ lay E (s ||| 2 ^ x) t k l i j ≤ lay E s t k l i j + (if i = 0 ∧ j = 2 + 2 * x then 1 else 0) := by
  have pos : (0 : Int) ≤ if i = 0 ∧ j = 2 + 2 * x then 1 else 0 := by split <;> omega
  unfold lay
  by_cases A : i % 2 = 0 ∧ 2 ≤ i ∧ j = i + 1 ∧ i < 2 + 2 * k
  · rw [if_pos A, if_pos A]; omega
  · rw [if_neg A, if_neg A]
    by_cases B : i = 0 ∧ j % 2 = 0 ∧ 2 ≤ j ∧ j < 2 + 2 * k
    · rw [if_pos B, if_pos B]
      obtain ⟨h1, h2⟩ := bit_mono (s := s) (x := x) (v := j / 2 - 1)
      refine ⟨h1, Int.le_trans h2 ?_⟩
      by_cases d : j / 2 - 1 = x
      · rw [if_pos d, if_pos ⟨B.1, by omega⟩]; omega
      · rw [if_neg d]; omega
    · rw [if_neg B, if_neg B]
      by_cases C : j = 1 ∧ i % 2 = 1 ∧ 3 ≤ i ∧ i < 3 + 2 * k
      · rw [if_pos C]; exact ⟨Int.le_refl _, Int.le_add_of_nonneg_right pos⟩
      · rw [if_neg C]; exact ⟨Int.le_refl _, Int.le_add_of_nonneg_right pos⟩
theorem out_mono {m : Nat} {p r : Nat → Nat → Int} (h : ∀ i j, p i j ≤ r i j) (S : Nat → Bool) : outS m p S ≤ outS m r S := sm_le fun i _ => by
  split
  · exact sm_le fun j _ => by
      split
      · exact Int.le_refl _
      · exact h i j
  · exact Int.le_refl _
theorem out_add {m y : Nat} {p r : Nat → Nat → Int} (hm : 0 < m) (hy : y < m) (h : ∀ i j, r i j ≤ p i j + (if i = 0 ∧ j = y then 1 else 0)) (S : Nat → Bool) : outS m r S ≤ outS m p S + 1 := by
  have one : sm m (fun i => sm m (fun j => if i = 0 ∧ j = y then (1 : Int) else 0)) = 1 := by
    rw [sm_one (k := 0) hm fun i _ hne => sm_zero fun j _ => if_neg fun w => hne w.1, sm_one (k := y) hy fun j _ hne => if_neg fun w => hne w.2]
    simp
  rw [← one]
  unfold outS
  rw [← sm_add]
  refine sm_le fun i _ => ?_
  have nn : 0 ≤ sm m (fun j => if i = 0 ∧ j = y then (1 : Int) else 0) := sm_nn fun j _ => by split <;> omega
  split
  · rw [← sm_add]
    refine sm_le fun j _ => ?_
    split
    · split <;> omega
    · exact h i j
  · omega
end Go.SH
