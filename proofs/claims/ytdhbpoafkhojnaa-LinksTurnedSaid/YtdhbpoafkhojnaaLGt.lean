/-
  What hangs together in a graph, and how much: a rank function. Conditions: none.
-/
import Derived.Test.YtdhbpoafkhojnaaLRm
set_option linter.unusedSimpArgs false
set_option linter.unusedVariables false
namespace Go.SH
open Go Go.AX

def hA (E : List (Int × Int)) (k : Nat) : Nat := (E.getD k (0, 0)).1.toNat
def hB (E : List (Int × Int)) (k : Nat) : Nat := (E.getD k (0, 0)).2.toNat
section
variable {E : List (Int × Int)} {N : Nat}

def Adj (E : List (Int × Int)) (S x y : Nat) : Prop := ∃ k, k < E.length ∧ S.testBit k = true ∧ ((x = hA E k ∧ y = hB E k) ∨ (x = hB E k ∧ y = hA E k))
inductive Con (E : List (Int × Int)) (S : Nat) : Nat → Nat → Prop
  | refl (u : Nat) : Con E S u u
  | tail {u v w : Nat} : Con E S u v → Adj E S v w → Con E S u w
theorem Adj.symm {S x y : Nat} (h : Adj E S x y) : Adj E S y x := by
  obtain ⟨k, h1, h2, h3⟩ := h
  exact ⟨k, h1, h2, h3.elim (fun q => .inr ⟨q.2, q.1⟩) fun q => .inl ⟨q.2, q.1⟩⟩
theorem Con.trans {S u v w : Nat} (h : Con E S u v) (k : Con E S v w) : Con E S u w := by
  induction k with
  | refl => exact h
  | tail _ a ih => exact .tail ih a
theorem Con.one {S x y : Nat} (h : Adj E S x y) : Con E S x y := .tail (.refl _) h
theorem Con.symm {S u v : Nat} (h : Con E S u v) : Con E S v u := by
  induction h with
  | refl => exact .refl _
  | tail _ a ih => exact (Con.one a.symm).trans ih
theorem Con.mono {S T u v : Nat} (hST : Inc S T) (h : Con E S u v) : Con E T u v := by
  induction h with
  | refl => exact .refl _
  | tail _ a ih =>
    obtain ⟨k, h1, h2, h3⟩ := a
    exact .tail ih ⟨k, h1, hST k h2, h3⟩
theorem Con.edge {S k : Nat} (hk : k < E.length) (h : S.testBit k = true) : Con E S (hA E k) (hB E k) := .one ⟨k, hk, h, .inl ⟨rfl, rfl⟩⟩
/-- All ends are vertices. -/
def EndsLt (N : Nat) (E : List (Int × Int)) : Prop := ∀ k, k < E.length → hA E k < N ∧ hB E k < N
theorem Con.lt (hE : EndsLt N E) {S u v : Nat} (h : Con E S u v) (hu : u < N) : v < N := by
  cases h with
  | refl => exact hu
  | tail _ a =>
    obtain ⟨k, h1, h2, h3⟩ := a
    have := hE k h1
    omega
theorem Con_add {S k u v : Nat} (hk : k < E.length) : Con E (S ||| 2 ^ k) u v ↔ Con E S u v ∨ (Con E S u (hA E k) ∧ Con E S (hB E k) v) ∨ (Con E S u (hB E k) ∧ Con E S (hA E k) v) := by
  constructor
  · intro h
    induction h with
    | refl => exact .inl (.refl _)
    | @tail v w _ a ih =>
      obtain ⟨j, h1, h2, h3⟩ := a
      by_cases hj : S.testBit j = true
      · have ha : Con E S v w := .one ⟨j, h1, hj, h3⟩
        exact ih.imp (fun q => q.trans ha) fun q => q.imp (fun r => ⟨r.1, r.2.trans ha⟩) fun r => ⟨r.1, r.2.trans ha⟩
      · have ejk : j = k := by
          rw [Nat.testBit_or, testBit_pow, Bool.or_eq_true, decide_eq_true_eq] at h2
          exact (h2.resolve_left hj).symm
        subst ejk
        rcases h3 with ⟨rfl, rfl⟩ | ⟨rfl, rfl⟩
        · rcases ih with q | ⟨q1, q2⟩ | ⟨q1, q2⟩
          · exact .inr (.inl ⟨q, .refl _⟩)
          · exact .inr (.inl ⟨q1, .refl _⟩)
          · exact .inl q1
        · rcases ih with q | ⟨q1, q2⟩ | ⟨q1, q2⟩
          · exact .inr (.inr ⟨q, .refl _⟩)
          · exact .inl q1
          · exact .inr (.inr ⟨q1, .refl _⟩)
  · have m : ∀ {a b : Nat}, Con E S a b → Con E (S ||| 2 ^ k) a b := fun h => h.mono (inc_or_l _ _)
    have e : Con E (S ||| 2 ^ k) (hA E k) (hB E k) := .edge hk (by rw [Nat.testBit_or, testBit_pow]; simp)
    rintro (h | ⟨h1, h2⟩ | ⟨h1, h2⟩)
    · exact m h
    · exact ((m h1).trans e).trans (m h2)
    · exact ((m h1).trans e.symm).trans (m h2)
theorem Con_big {S k u v : Nat} (hk : E.length ≤ k) : Con E (S ||| 2 ^ k) u v ↔ Con E S u v := by
  refine ⟨fun h => ?_, fun h => h.mono (inc_or_l _ _)⟩
  induction h with
  | refl => exact .refl _
  | tail _ a ih =>
    obtain ⟨j, h1, h2, h3⟩ := a
    rw [Nat.testBit_or, testBit_pow, Bool.or_eq_true, decide_eq_true_eq] at h2
    exact .tail ih ⟨j, h1, h2.resolve_right (by omega), h3⟩

/-! ### counting -/
open Classical in
noncomputable def num (p : Nat → Prop) : Nat → Nat
  | 0 => 0
  | n + 1 => num p n + if p n then 1 else 0
theorem num_le (p : Nat → Prop) : ∀ n, num p n ≤ n
  | 0 => Nat.le_refl _
  | n + 1 => by have := num_le p n; unfold num; split <;> omega
theorem num_congr {p q : Nat → Prop} : ∀ n, (∀ v, v < n → (p v ↔ q v)) → num p n = num q n
  | 0, _ => rfl
  | n + 1, h => by
    unfold num
    rw [num_congr n fun v hv => h v (by omega)]
    by_cases c : p n
    · rw [if_pos c, if_pos ((h n (by omega)).1 c)]
    · rw [if_neg c, if_neg fun d => c ((h n (by omega)).2 d)]
theorem num_remove {p q : Nat → Prop} {a : Nat} : ∀ n, a < n → p a → (∀ v, v < n → (q v ↔ p v ∧ v ≠ a)) → num q n + 1 = num p n
  | 0, h, _, _ => by omega
  | n + 1, ha, hp, h => by
    unfold num
    by_cases e : a = n
    · subst e
      rw [if_pos hp, if_neg fun d => ((h a (by omega)).1 d).2 rfl]
      rw [num_congr (p := q) (q := p) a fun v hv => by rw [h v (by omega)]; exact ⟨fun x => x.1, fun x => ⟨x, by omega⟩⟩]
    · have ih := num_remove n (by omega) hp fun v hv => h v (by omega)
      have hn := h n (by omega)
      by_cases c : p n
      · rw [if_pos c, if_pos (hn.2 ⟨c, fun x => e x.symm⟩)]; omega
      · rw [if_neg c, if_neg fun d => c (hn.1 d).1]; omega
theorem num_all {p : Nat → Prop} : ∀ n, (∀ v, v < n → p v) → num p n = n
  | 0, _ => rfl
  | n + 1, h => by unfold num; rw [num_all n fun v hv => h v (by omega), if_pos (h n (by omega))]

/-- The least of those that hang together. -/
def Rep (E : List (Int × Int)) (S v : Nat) : Prop := ∀ u, Con E S v u → v ≤ u
theorem rep_ex (S : Nat) : ∀ v, ∃ r, Con E S v r ∧ Rep E S r ∧ r ≤ v := by
  intro v
  induction v using Nat.strongRecOn with
  | ind v ih =>
    by_cases c : Rep E S v
    · exact ⟨v, .refl _, c, Nat.le_refl _⟩
    · obtain ⟨u, h1, h2⟩ : ∃ u, Con E S v u ∧ u < v := Classical.byContradiction fun d => c fun u hu => by
        rcases Nat.lt_or_ge u v with q | q
        · exact absurd ⟨u, hu, q⟩ d
        · exact q
      obtain ⟨r, r1, r2, r3⟩ := ih u h2
      exact ⟨r, h1.trans r1, r2, by omega⟩
noncomputable def comps (N : Nat) (E : List (Int × Int)) (S : Nat) : Nat := num (Rep E S) N
noncomputable def grk (N : Nat) (E : List (Int × Int)) (S : Nat) : Nat := N - comps N E S
theorem comps_same {S T : Nat} (h : ∀ u v, Con E S u v ↔ Con E T u v) : comps N E S = comps N E T :=
  num_congr N fun v _ => ⟨fun q u hu => q u ((h v u).2 hu), fun q u hu => q u ((h v u).1 hu)⟩
theorem comps_sp {S k : Nat} (hk : k < E.length) (h : Con E S (hA E k) (hB E k)) : comps N E (S ||| 2 ^ k) = comps N E S :=
  comps_same fun u v => by
    rw [Con_add hk]
    refine ⟨?_, .inl⟩
    rintro (q | ⟨q1, q2⟩ | ⟨q1, q2⟩)
    · exact q
    · exact (q1.trans h).trans q2
    · exact (q1.trans h.symm).trans q2
theorem comps_new (hE : EndsLt N E) {S k : Nat} (hk : k < E.length) (h : ¬ Con E S (hA E k) (hB E k)) : comps N E (S ||| 2 ^ k) + 1 = comps N E S := by
  obtain ⟨a, a1, a2, a3⟩ := rep_ex (E := E) S (hA E k)
  obtain ⟨b, b1, b2, b3⟩ := rep_ex (E := E) S (hB E k)
  have hl := hE k hk
  have hab : a ≠ b := fun e => by subst e; exact h (a1.trans b1.symm)
  have m : ∀ {u v : Nat}, Con E S u v → Con E (S ||| 2 ^ k) u v := fun h => h.mono (inc_or_l _ _)
  have e : Con E (S ||| 2 ^ k) a b := ((m a1.symm).trans (.edge hk (by rw [Nat.testBit_or, testBit_pow]; simp))).trans (m b1)
  have key : ∀ {x y : Nat}, x < y → Rep E S x → Rep E S y → y < N → Con E (S ||| 2 ^ k) x y → ((Con E S x (hA E k) ∧ Con E S (hB E k) y) ∨ (Con E S x (hB E k) ∧ Con E S (hA E k) y)) → comps N E (S ||| 2 ^ k) + 1 = comps N E S := fun {x y} hxy rx ry hy hc hor => by
    refine num_remove N hy ry fun v hv => ⟨fun hq => ⟨fun u hu => hq u (m hu), fun ev => ?_⟩, fun ⟨hq, hne⟩ u hu => ?_⟩
    · subst ev
      have := hq x hc.symm
      omega
    · rw [Con_add hk] at hu
      have cls : ∀ {w : Nat}, Con E S v w → Con E S w y → v = y := fun {w} h1 h2 => by
        have h3 := hq y (h1.trans h2)
        have h4 := ry v (h1.trans h2).symm
        omega
      have clx : ∀ {w : Nat}, Con E S v w → Con E S w x → v = x := fun {w} h1 h2 => by
        have h3 := hq x (h1.trans h2)
        have h4 := rx v (h1.trans h2).symm
        omega
      have fin : ∀ {w : Nat}, v = x → Con E S w u → Con E S w y → v ≤ u := fun {w} e1 h1 h2 => by
        have := ry u (h2.symm.trans h1)
        omega
      rcases hu with hu | ⟨u1, u2⟩ | ⟨u1, u2⟩
      · exact hq u hu
      · rcases hor with ⟨o1, o2⟩ | ⟨o1, o2⟩
        · exact fin (clx u1 o1.symm) u2 o2
        · exact absurd (cls u1 o2) hne
      · rcases hor with ⟨o1, o2⟩ | ⟨o1, o2⟩
        · exact absurd (cls u1 o2) hne
        · exact fin (clx u1 o1.symm) u2 o2
  rcases Nat.lt_or_ge a b with c | c
  · exact key c a2 b2 (by omega) e (.inl ⟨a1.symm, b1⟩)
  · exact key (by omega) b2 a2 (by omega) e.symm (.inr ⟨b1.symm, a1⟩)

open Classical in
theorem grk_add (hE : EndsLt N E) (S k : Nat) : grk N E (S ||| 2 ^ k) = grk N E S + if k < E.length ∧ ¬ Con E S (hA E k) (hB E k) then 1 else 0 := by
  unfold grk
  split
  · rename_i h
    have h1 := comps_new hE h.1 h.2
    have h2 : comps N E S ≤ N := num_le _ _
    omega
  · rename_i h
    by_cases hk : k < E.length
    · rw [comps_sp hk (Classical.byContradiction fun c => h ⟨hk, c⟩)]; rfl
    · rw [comps_same fun u v => Con_big (by omega)]; rfl
theorem grk_mono (hE : EndsLt N E) (S : Nat) : ∀ {M : Nat} (X : Nat), X < 2 ^ M → grk N E S ≤ grk N E (S ||| X) := fun {M} => by
  refine set_ind (m := M) _ (by simp) ?_
  intro X i _ _ _ ih
  rw [← Nat.or_assoc, grk_add hE]
  omega
theorem grk_sub (hE : EndsLt N E) {S U : Nat} (hUS : Inc U S) : ∀ {M : Nat} (X : Nat), X < 2 ^ M → grk N E (S ||| X) + grk N E U ≤ grk N E S + grk N E (U ||| X) := fun {M} => by
  refine set_ind (m := M) _ (by simp only [Nat.or_zero]; omega) ?_
  intro X i _ _ _ ih
  rw [← Nat.or_assoc, ← Nat.or_assoc, grk_add hE, grk_add hE]
  have : (i < E.length ∧ ¬ Con E (S ||| X) (hA E i) (hB E i)) → (i < E.length ∧ ¬ Con E (U ||| X) (hA E i) (hB E i)) := fun ⟨h1, h2⟩ => ⟨h1, fun c => h2 (c.mono fun j hj => by
    rw [Nat.testBit_or, Bool.or_eq_true] at hj ⊢
    exact hj.imp (hUS j) id)⟩
  split
  · rename_i c
    rw [if_pos (this c)]; omega
  · omega
theorem grkF (hE : EndsLt N E) : RkF (grk N E) := by
  refine ⟨?_, fun s t hst => ?_, fun s i => ?_, fun s t => ?_⟩
  · have : comps N E 0 = N := num_all N fun v _ u hu => by
      cases hu with
      | refl => exact Nat.le_refl _
      | tail _ a =>
        obtain ⟨k, _, h2, _⟩ := a
        rw [Nat.zero_testBit] at h2; cases h2
    unfold grk; omega
  · have := grk_mono hE s _ (Nat.lt_two_pow_self (n := dif t s))
    have e : s ||| dif t s = t := bx fun j => by
      have := hst j
      rw [Nat.testBit_or, testBit_dif]
      cases a : s.testBit j <;> cases b : t.testBit j <;> simp_all
    rwa [e] at this
  · rw [grk_add hE]; split <;> omega
  · have := grk_sub hE (S := s) (U := s &&& t) (inc_and_l s t) _ (Nat.lt_two_pow_self (n := dif t s))
    have e : s ||| dif t s = s ||| t := bx fun j => by
      rw [Nat.testBit_or, testBit_dif, Nat.testBit_or]
      cases a : s.testBit j <;> cases b : t.testBit j <;> simp_all
    have e2 : s &&& t ||| dif t s = t := bx fun j => by
      rw [Nat.testBit_or, testBit_dif, Nat.testBit_and]
      cases a : s.testBit j <;> cases b : t.testBit j <;> simp_all
    rw [e, e2] at this
    exact this
theorem grk_cl (hE : EndsLt N E) {S k : Nat} (hk : k < E.length) : grk N E (S ||| 2 ^ k) = grk N E S ↔ Con E S (hA E k) (hB E k) := by
  rw [grk_add hE]
  constructor
  · intro h
    exact Classical.byContradiction fun c => by rw [if_pos ⟨hk, c⟩] at h; omega
  · intro h
    rw [if_neg fun c => c.2 h]; rfl
end
end Go.SH
