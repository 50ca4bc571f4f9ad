/-
  The greatest sets of which something holds, as the code finds them. What hangs together in a graph, and how much: a rank function. Edges without a ring, as the code finds them (kinds.forest, Graphic); a graph's matroid.  Conditions: none.
-/
import Derived.Test.YtdhbpoafkhojnaaSp
import Derived.Test.YtdhbpoafkhojnaaLM
import Derived.Test.YtdhbpoafkhojnaaLOc
import Derived.Test.YtdhbpoafkhojnaaLRm
import Derived.Test.YtdhbpoafkhojnaaSpkindsg

set_option linter.unusedSimpArgs false
set_option linter.unusedVariables false
namespace Go.SH
open Go Go.AX

theorem kinds_size_nat {a : Nat} (h : a < 256) : kinds_size (a : Int) = some ((size a : Nat) : Int) := by
  unfold kinds_size
  rw [chk_pos (by omega)]
  simp [bits_OnesCount, oc_size h]
theorem fam_pw {m : Nat} {K : List Nat} (h8 : m ≤ 8) (h1 : ∀ s, s ∈ K → s < 2 ^ m) (h2 : K.Pairwise (· < ·)) : Fam m K := ⟨h8, h1, fun i j hij hj => by
  rw [List.pairwise_iff_getElem] at h2
  have := h2 i j (by omega) hj hij
  simpa [List.getD_eq_getElem?_getD, List.getElem?_eq_getElem hj, List.getElem?_eq_getElem (show i < K.length by omega)] using this⟩
/-- The greatest sets of which this holds. -/
theorem greatest_spec {n : Nat} (h8 : n ≤ 8) {g : Int → Option Bool} {p : Nat → Prop} (hf : ∀ s : Nat, s < 2 ^ n → Gets (g (s : Int)) (fun b => b = true ↔ p s)) (h0 : p 0) : Gets (kinds_greatest n g) (fun r => ∃ K, r = ((n : Int), cs K) ∧ Fam n K ∧ ∀ s, s ∈ K ↔ s < 2 ^ n ∧ p s ∧ ∀ t, t < 2 ^ n → p t → cnt n t ≤ cnt n s) := by
  have h256 := pow_le8 h8
  have hp2 : 0 < 2 ^ n := Nat.pow_pos (by omega)
  unfold kinds_greatest
  refine gChk (by omega) ?_
  simp only [toNat_nat, shl_nat']
  refine gBind (R := fun l => ∃ K, l = cs K ∧ Fam n K ∧ ∀ s, s ∈ K ↔ s < 2 ^ n ∧ p s ∧ ∀ t, t < 2 ^ n → p t → cnt n t ≤ cnt n s) (gFor (2 ^ n) (fun k (x : List Int × Int × Int) => x.2.2 = (k : Int) ∧ ∃ K : List Nat, x.1 = cs K ∧ K.Pairwise (· < ·) ∧ K.length ≤ k ∧ -1 ≤ x.2.1 ∧ (∀ s, s ∈ K ↔ s < k ∧ p s ∧ ((cnt n s : Nat) : Int) = x.2.1) ∧ (∀ s, s < k → p s → ((cnt n s : Nat) : Int) ≤ x.2.1) ∧ (x.2.1 = -1 ∨ ∃ s, s < k ∧ p s ∧ ((cnt n s : Nat) : Int) = x.2.1)) (Nat.zero_le _) ⟨rfl, [], rfl, List.Pairwise.nil, Nat.le_refl _, Int.le_refl _, fun s => ⟨fun h => (by cases h), fun h => absurd h.1 (by omega)⟩, none_all, .inl rfl⟩ ?_) ?_
  · rintro k ⟨_, most, _⟩ hk ⟨rfl, K, rfl, b1, b2, b3, b4, b5, b6⟩
    simp only at b3 b4 b5 b6
    dsimp only
    refine gIte (fun h1 => ?_) fun h1 => ?_
    rotate_left
    · have e : k = 2 ^ n := by omega
      subst e
      refine gSome ⟨K, rfl, fam_pw h8 (fun s hs => ((b4 s).1 hs).1) b1, fun s => ?_⟩
      rw [b4]
      refine ⟨fun ⟨q1, q2, q3⟩ => ⟨q1, q2, fun t ht hp => by have := b5 t ht hp; omega⟩, fun ⟨q1, q2, q3⟩ => ⟨q1, q2, ?_⟩⟩
      have h1 := b5 s q1 q2
      rcases b6 with b6 | ⟨t, t1, t2, t3⟩
      · omega
      · have := q3 t t1 t2; omega
    have hk' : k < 2 ^ n := by omega
    have hz : kinds_size (k : Int) = some ((cnt n k : Nat) : Int) := by rw [kinds_size_nat (by omega), size_of_lt hk' h8]
    have skip : ¬ (p k ∧ most ≤ ((cnt n k : Nat) : Int)) → (k < 2 ^ n ∧ ((k : Int) + 1 = ((k + 1 : Nat) : Int) ∧ ∃ K' : List Nat, cs K = cs K' ∧ K'.Pairwise (· < ·) ∧ K'.length ≤ k + 1 ∧ -1 ≤ most ∧ (∀ s, s ∈ K' ↔ s < k + 1 ∧ p s ∧ ((cnt n s : Nat) : Int) = most) ∧ (∀ s, s < k + 1 → p s → ((cnt n s : Nat) : Int) ≤ most) ∧ (most = -1 ∨ ∃ s, s < k + 1 ∧ p s ∧ ((cnt n s : Nat) : Int) = most))) := fun hn => by
      refine ⟨hk', by simp, K, rfl, b1, by omega, b3, fun s => ?_, fun s hs hp => ?_, b6.imp id fun ⟨s, s1, s2⟩ => ⟨s, by omega, s2⟩⟩
      · rw [b4]
        refine ⟨fun q => ⟨by omega, q.2⟩, fun q => ⟨?_, q.2⟩⟩
        rcases Nat.lt_succ_iff_lt_or_eq.1 q.1 with c | c
        · exact c
        · subst c; exact absurd ⟨q.2.1, by omega⟩ hn
      · rcases Nat.lt_succ_iff_lt_or_eq.1 hs with c | c
        · exact b5 s c hp
        · subst c
          rcases Int.lt_or_le most ((cnt n s : Nat) : Int) with d | d
          · exact absurd ⟨hp, by omega⟩ hn
          · exact d
    refine gBindE hz (gIte (fun h2 => ?_) fun h2 => gSome (skip fun q => h2 (by omega)))
    refine gBind (hf k hk') fun b hb => gIte (fun h3 => gSome (skip fun q => h3 (hb.2 q.1))) fun h3 => ?_
    have hp : p k := hb.1 (by simpa using h3)
    refine gBindE hz (gIte (fun h4 => ?_) fun h4 => ?_)
    · refine gBindE hz (gChk (by simp) (gSome ⟨hk', by simp, [k], rfl, List.pairwise_singleton _ _, by simp only [List.length_cons, List.length_nil]; omega, (show (-1 : Int) ≤ ((cnt n k : Nat) : Int) by omega), fun s => ?_, fun s hs hps => ?_, .inr ⟨k, by omega, hp, rfl⟩⟩))
      · rw [List.mem_singleton]
        refine ⟨fun e => by subst e; exact ⟨by omega, hp, rfl⟩, fun q => ?_⟩
        rcases Nat.lt_succ_iff_lt_or_eq.1 q.1 with c | c
        · have := b5 s c q.2.1
          have := q.2.2
          simp only at this
          omega
        · exact c
      · show ((cnt n s : Nat) : Int) ≤ ((cnt n k : Nat) : Int)
        rcases Nat.lt_succ_iff_lt_or_eq.1 hs with c | c
        · have := b5 s c hps; omega
        · subst c; omega
    · have he : ((cnt n k : Nat) : Int) = most := by omega
      refine gChk (by rw [List.length_append, cs_len]; simp only [List.length_cons, List.length_nil]; omega) (gSome ⟨hk', by simp, K ++ [k], cs_app _ _, List.pairwise_append.2 ⟨b1, List.pairwise_singleton _ _, fun a ha b hb => ?_⟩, by rw [List.length_append]; simp only [List.length_cons, List.length_nil]; omega, b3, fun s => ?_, fun s hs hps => ?_, .inr ⟨k, by omega, hp, he⟩⟩)
      · rw [List.mem_singleton] at hb; subst hb; exact ((b4 a).1 ha).1
      · rw [List.mem_append, List.mem_singleton, b4]
        constructor
        · rintro (q | q)
          · exact ⟨by omega, q.2⟩
          · subst q; exact ⟨by omega, hp, he⟩
        · intro q
          rcases Nat.lt_succ_iff_lt_or_eq.1 q.1 with c | c
          · exact .inl ⟨c, q.2⟩
          · exact .inr c
      · rcases Nat.lt_succ_iff_lt_or_eq.1 hs with c | c
        · exact b5 s c hps
        · subst c; exact Int.le_of_eq he
  · rintro _ ⟨K, rfl, h1, h2⟩
    exact gSome ⟨K, rfl, h1, h2⟩
end Go.SH

set_option linter.unusedSimpArgs false
set_option linter.unusedVariables false
namespace Go.SH
open Go Go.AX

def hA (E : List (Int × Int)) (k : Nat) : Nat := (E.getD k (0, 0)).1.toNat
def hB (E : List (Int × Int)) (k : Nat) : Nat := (E.getD k (0, 0)).2.toNat
section
variable {E : List (Int × Int)} {N : Nat}

def Adj (E : List (Int × Int)) (S x y : Nat) : Prop := ∃ k, k < E.length ∧ S.testBit k = true ∧ ((x = hA E k ∧ y = hB E k) ∨ (x = hB E k ∧ y = hA E k))
inductive Con (E : List (Int × Int)) (S : Nat) : Nat → Nat → Prop
  | refl (u : Nat) : Con E S u u
  | tail {u v w : Nat} : Con E S u v → Adj E S v w → Con E S u w
theorem Adj.symm {S x y : Nat} (h : Adj E S x y) : Adj E S y x := by
  obtain ⟨k, h1, h2, h3⟩ := h
  exact ⟨k, h1, h2, h3.elim (fun q => .inr ⟨q.2, q.1⟩) fun q => .inl ⟨q.2, q.1⟩⟩
theorem Con.trans {S u v w : Nat} (h : Con E S u v) (k : Con E S v w) : Con E S u w := by
  induction k with
  | refl => exact h
  | tail _ a ih => exact .tail ih a
theorem Con.one {S x y : Nat} (h : Adj E S x y) : Con E S x y := .tail (.refl _) h
theorem Con.symm {S u v : Nat} (h : Con E S u v) : Con E S v u := by
  induction h with
  | refl => exact .refl _
  | tail _ a ih => exact (Con.one a.symm).trans ih
theorem Con.mono {S T u v : Nat} (hST : Inc S T) (h : Con E S u v) : Con E T u v := by
  induction h with
  | refl => exact .refl _
  | tail _ a ih =>
    obtain ⟨k, h1, h2, h3⟩ := a
    exact .tail ih ⟨k, h1, hST k h2, h3⟩
theorem Con.edge {S k : Nat} (hk : k < E.length) (h : S.testBit k = true) : Con E S (hA E k) (hB E k) := .one ⟨k, hk, h, .inl ⟨rfl, rfl⟩⟩
/-- All ends are vertices. -/
def EndsLt (N : Nat) (E : List (Int × Int)) : Prop := ∀ k, k < E.length → hA E k < N ∧ hB E k < N
theorem Con.lt (hE : EndsLt N E) {S u v : Nat} (h : Con E S u v) (hu : u < N) : v < N := by
  cases h with
  | refl => exact hu
  | tail _ a =>
    obtain ⟨k, h1, h2, h3⟩ := a
    have := hE k h1
    omega
theorem Con_add {S k u v : Nat} (hk : k < E.length) : Con E (S ||| 2 ^ k) u v ↔ Con E S u v ∨ (Con E S u (hA E k) ∧ Con E S (hB E k) v) ∨ (Con E S u (hB E k) ∧ Con E S (hA E k) v) := by
  constructor
  · intro h
    induction h with
    | refl => exact .inl (.refl _)
    | @tail v w _ a ih =>
      obtain ⟨j, h1, h2, h3⟩ := a
      by_cases hj : S.testBit j = true
      · have ha : Con E S v w := .one ⟨j, h1, hj, h3⟩
        exact ih.imp (fun q => q.trans ha) fun q => q.imp (fun r => ⟨r.1, r.2.trans ha⟩) fun r => ⟨r.1, r.2.trans ha⟩
      · have ejk : j = k := by
          rw [Nat.testBit_or, testBit_pow, Bool.or_eq_true, decide_eq_true_eq] at h2
          exact (h2.resolve_left hj).symm
        subst ejk
        rcases h3 with ⟨rfl, rfl⟩ | ⟨rfl, rfl⟩
        · rcases ih with q | ⟨q1, q2⟩ | ⟨q1, q2⟩
          · exact .inr (.inl ⟨q, .refl _⟩)
          · exact .inr (.inl ⟨q1, .refl _⟩)
          · exact .inl q1
        · rcases ih with q | ⟨q1, q2⟩ | ⟨q1, q2⟩
          · exact .inr (.inr ⟨q, .refl _⟩)
          · exact .inl q1
          · exact .inr (.inr ⟨q1, .refl _⟩)
  · have m : ∀ {a b : Nat}, Con E S a b → Con E (S ||| 2 ^ k) a b := fun h => h.mono (inc_or_l _ _)
    have e : Con E (S ||| 2 ^ k) (hA E k) (hB E k) := .edge hk (by rw [Nat.testBit_or, testBit_pow]; simp)
    rintro (h | ⟨h1, h2⟩ | ⟨h1, h2⟩)
    · exact m h
    · exact ((m h1).trans e).trans (m h2)
    · exact ((m h1).trans e.symm).trans (m h2)
theorem Con_big {S k u v : Nat} (hk : E.length ≤ k) : Con E (S ||| 2 ^ k) u v ↔ Con E S u v := by
  refine ⟨fun h => ?_, fun h => h.mono (inc_or_l _ _)⟩
  induction h with
  | refl => exact .refl _
  | tail _ a ih =>
    obtain ⟨j, h1, h2, h3⟩ := a
    rw [Nat.testBit_or, testBit_pow, Bool.or_eq_true, decide_eq_true_eq] at h2
    exact .tail ih ⟨j, h1, h2.resolve_right (by omega), h3⟩

/-! ### counting -/
open Classical in
noncomputable def num (p : Nat → Prop) : Nat → Nat
  | 0 => 0
  | n + 1 => num p n + if p n then 1 else 0
theorem num_le (p : Nat → Prop) : ∀ n, num p n ≤ n
  | 0 => Nat.le_refl _
  | n + 1 => by have := num_le p n; unfold num; split <;> omega
theorem num_congr {p q : Nat → Prop} : ∀ n, (∀ v, v < n → (p v ↔ q v)) → num p n = num q n
  | 0, _ => rfl
  | n + 1, h => by
    unfold num
    rw [num_congr n fun v hv => h v (by omega)]
    by_cases c : p n
    · rw [if_pos c, if_pos ((h n (by omega)).1 c)]
    · rw [if_neg c, if_neg fun d => c ((h n (by omega)).2 d)]
theorem num_remove {p q : Nat → Prop} {a : Nat} : ∀ n, a < n → p a → (∀ v, v < n → (q v ↔ p v ∧ v ≠ a)) → num q n + 1 = num p n
  | 0, h, _, _ => by omega
  | n + 1, ha, hp, h => by
    unfold num
    by_cases e : a = n
    · subst e
      rw [if_pos hp, if_neg fun d => ((h a (by omega)).1 d).2 rfl]
      rw [num_congr (p := q) (q := p) a fun v hv => by rw [h v (by omega)]; exact ⟨fun x => x.1, fun x => ⟨x, by omega⟩⟩]
    · have ih := num_remove n (by omega) hp fun v hv => h v (by omega)
      have hn := h n (by omega)
      by_cases c : p n
      · rw [if_pos c, if_pos (hn.2 ⟨c, fun x => e x.symm⟩)]; omega
      · rw [if_neg c, if_neg fun d => c (hn.1 d).1]; omega
theorem num_all {p : Nat → Prop} : ∀ n, (∀ v, v < n → p v) → num p n = n
  | 0, _ => rfl
  | n + 1, h => by unfold num; rw [num_all n fun v hv => h v (by omega), if_pos (h n (by omega))]

/-- The least of those that hang together. -/
def Rep (E : List (Int × Int)) (S v : Nat) : Prop := ∀ u, Con E S v u → v ≤ u
theorem rep_ex (S : Nat) : ∀ v, ∃ r, Con E S v r ∧ Rep E S r ∧ r ≤ v := by
  intro v
  induction v using Nat.strongRecOn with
  | ind v ih =>
    by_cases c : Rep E S v
    · exact ⟨v, .refl _, c, Nat.le_refl _⟩
    · obtain ⟨u, h1, h2⟩ : ∃ u, Con E S v u ∧ u < v := Classical.byContradiction fun d => c fun u hu => by
        rcases Nat.lt_or_ge u v with q | q
        · exact absurd ⟨u, hu, q⟩ d
        · exact q
      obtain ⟨r, r1, r2, r3⟩ := ih u h2
      exact ⟨r, h1.trans r1, r2, by omega⟩
noncomputable def comps (N : Nat) (E : List (Int × Int)) (S : Nat) : Nat := num (Rep E S) N
noncomputable def grk (N : Nat) (E : List (Int × Int)) (S : Nat) : Nat := N - comps N E S
theorem comps_same {S T : Nat} (h : ∀ u v, Con E S u v ↔ Con E T u v) : comps N E S = comps N E T :=
  num_congr N fun v _ => ⟨fun q u hu => q u ((h v u).2 hu), fun q u hu => q u ((h v u).1 hu)⟩
theorem comps_sp {S k : Nat} (hk : k < E.length) (h : Con E S (hA E k) (hB E k)) : comps N E (S ||| 2 ^ k) = comps N E S :=
  comps_same fun u v => by
    rw [Con_add hk]
    refine ⟨?_, .inl⟩
    rintro (q | ⟨q1, q2⟩ | ⟨q1, q2⟩)
    · exact q
    · exact (q1.trans h).trans q2
    · exact (q1.trans h.symm).trans q2
theorem comps_new (hE : EndsLt N E) {S k : Nat} (hk : k < E.length) (h : ¬ Con E S (hA E k) (hB E k)) : comps N E (S ||| 2 ^ k) + 1 = comps N E S := by
  obtain ⟨a, a1, a2, a3⟩ := rep_ex (E := E) S (hA E k)
  obtain ⟨b, b1, b2, b3⟩ := rep_ex (E := E) S (hB E k)
  have hl := hE k hk
  have hab : a ≠ b := fun e => by subst e; exact h (a1.trans b1.symm)
  have m : ∀ {u v : Nat}, Con E S u v → Con E (S ||| 2 ^ k) u v := fun h => h.mono (inc_or_l _ _)
  have e : Con E (S ||| 2 ^ k) a b := ((m a1.symm).trans (.edge hk (by rw [Nat.testBit_or, testBit_pow]; simp))).trans (m b1)
  have key : ∀ {x y : Nat}, x < y → Rep E S x → Rep E S y → y < N → Con E (S ||| 2 ^ k) x y → ((Con E S x (hA E k) ∧ Con E S (hB E k) y) ∨ (Con E S x (hB E k) ∧ Con E S (hA E k) y)) → comps N E (S ||| 2 ^ k) + 1 = comps N E S := fun {x y} hxy rx ry hy hc hor => by
    refine num_remove N hy ry fun v hv => ⟨fun hq => ⟨fun u hu => hq u (m hu), fun ev => ?_⟩, fun ⟨hq, hne⟩ u hu => ?_⟩
    · subst ev
      have := hq x hc.symm
      omega
    · rw [Con_add hk] at hu
      have cls : ∀ {w : Nat}, Con E S v w → Con E S w y → v = y := fun {w} h1 h2 => by
        have h3 := hq y (h1.trans h2)
        have h4 := ry v (h1.trans h2).symm
        omega
      have clx : ∀ {w : Nat}, Con E S v w → Con E S w x → v = x := fun {w} h1 h2 => by
        have h3 := hq x (h1.trans h2)
        have h4 := rx v (h1.trans h2).symm
        omega
      have fin : ∀ {w : Nat}, v = x → Con E S w u → Con E S w y → v ≤ u := fun {w} e1 h1 h2 => by
        have := ry u (h2.symm.trans h1)
        omega
      rcases hu with hu | ⟨u1, u2⟩ | ⟨u1, u2⟩
      · exact hq u hu
      · rcases hor with ⟨o1, o2⟩ | ⟨o1, o2⟩
        · exact fin (clx u1 o1.symm) u2 o2
        · exact absurd (cls u1 o2) hne
      · rcases hor with ⟨o1, o2⟩ | ⟨o1, o2⟩
        · exact absurd (cls u1 o2) hne
        · exact fin (clx u1 o1.symm) u2 o2
  rcases Nat.lt_or_ge a b with c | c
  · exact key c a2 b2 (by omega) e (.inl ⟨a1.symm, b1⟩)
  · exact key (by omega) b2 a2 (by omega) e.symm (.inr ⟨b1.symm, a1⟩)

open Classical in
theorem grk_add (hE : EndsLt N E) (S k : Nat) : grk N E (S ||| 2 ^ k) = grk N E S + if k < E.length ∧ ¬ Con E S (hA E k) (hB E k) then 1 else 0 := by
  unfold grk
  split
  · rename_i h
    have h1 := comps_new hE h.1 h.2
    have h2 : comps N E S ≤ N := num_le _ _
    omega
  · rename_i h
    by_cases hk : k < E.length
    · rw [comps_sp hk (Classical.byContradiction fun c => h ⟨hk, c⟩)]; rfl
    · rw [comps_same fun u v => Con_big (by omega)]; rfl
theorem grk_mono (hE : EndsLt N E) (S : Nat) : ∀ {M : Nat} (X : Nat), X < 2 ^ M → grk N E S ≤ grk N E (S ||| X) := fun {M} => by
  refine set_ind (m := M) _ (by simp) ?_
  intro X i _ _ _ ih
  rw [← Nat.or_assoc, grk_add hE]
  omega
theorem grk_sub (hE : EndsLt N E) {S U : Nat} (hUS : Inc U S) : ∀ {M : Nat} (X : Nat), X < 2 ^ M → grk N E (S ||| X) + grk N E U ≤ grk N E S + grk N E (U ||| X) := fun {M} => by
  refine set_ind (m := M) _ (by simp only [Nat.or_zero]; omega) ?_
  intro X i _ _ _ ih
  rw [← Nat.or_assoc, ← Nat.or_assoc, grk_add hE, grk_add hE]
  have : (i < E.length ∧ ¬ Con E (S ||| X) (hA E i) (hB E i)) → (i < E.length ∧ ¬ Con E (U ||| X) (hA E i) (hB E i)) := fun ⟨h1, h2⟩ => ⟨h1, fun c => h2 (c.mono fun j hj => by
    rw [Nat.testBit_or, Bool.or_eq_true] at hj ⊢
    exact hj.imp (hUS j) id)⟩
  split
  · rename_i c
    rw [if_pos (this c)]; omega
  · omega
theorem grkF (hE : EndsLt N E) : RkF (grk N E) := by
  refine ⟨?_, fun s t hst => ?_, fun s i => ?_, fun s t => ?_⟩
  · have : comps N E 0 = N := num_all N fun v _ u hu => by
      cases hu with
      | refl => exact Nat.le_refl _
      | tail _ a =>
        obtain ⟨k, _, h2, _⟩ := a
        rw [Nat.zero_testBit] at h2; cases h2
    unfold grk; omega
  · have := grk_mono hE s _ (Nat.lt_two_pow_self (n := dif t s))
    have e : s ||| dif t s = t := bx fun j => by
      have := hst j
      rw [Nat.testBit_or, testBit_dif]
      cases a : s.testBit j <;> cases b : t.testBit j <;> simp_all
    rwa [e] at this
  · rw [grk_add hE]; split <;> omega
  · have := grk_sub hE (S := s) (U := s &&& t) (inc_and_l s t) _ (Nat.lt_two_pow_self (n := dif t s))
    have e : s ||| dif t s = s ||| t := bx fun j => by
      rw [Nat.testBit_or, testBit_dif, Nat.testBit_or]
      cases a : s.testBit j <;> cases b : t.testBit j <;> simp_all
    have e2 : s &&& t ||| dif t s = t := bx fun j => by
      rw [Nat.testBit_or, testBit_dif, Nat.testBit_and]
      cases a : s.testBit j <;> cases b : t.testBit j <;> simp_all
    rw [e, e2] at this
    exact this
theorem grk_cl (hE : EndsLt N E) {S k : Nat} (hk : k < E.length) : grk N E (S ||| 2 ^ k) = grk N E S ↔ Con E S (hA E k) (hB E k) := by
  rw [grk_add hE]
  constructor
  · intro h
    exact Classical.byContradiction fun c => by rw [if_pos ⟨hk, c⟩] at h; omega
  · intro h
    rw [if_neg fun c => c.2 h]; rfl
end
end Go.SH

set_option linter.unusedSimpArgs false
set_option linter.unusedVariables false
set_option linter.unusedSectionVars false
namespace Go.SH
open Go Go.AX

/-- A graph. -/
structure CG (N : Int) (E : List (Int × Int)) : Prop where
  n1 : 1 ≤ N
  n7 : N ≤ 7
  e8 : E.length ≤ 8
  bd : ∀ k, k < E.length → 0 ≤ (E.getD k (0, 0)).1 ∧ (E.getD k (0, 0)).1 < N ∧ 0 ≤ (E.getD k (0, 0)).2 ∧ (E.getD k (0, 0)).2 < N
theorem CheckGraph_spec (N : Int) (E : List (Int × Int)) : Gets (kinds_CheckGraph N E) (fun e => (e = 0 ∨ e = 1) ∧ (e = 0 ↔ CG N E)) := by
  unfold kinds_CheckGraph
  refine gIte (fun h1 => gSome ⟨.inr rfl, fun h => by omega, fun h => ?_⟩) fun h1 => ?_
  · have := h.n1; have := h.n7; have := h.e8; omega
  refine gBind (R := fun z : Unit ⊕ Int => match z with | .inl _ => CG N E | .inr e => e = 1 ∧ ¬ CG N E) (gFor E.length (fun i (v : Int) => v = (i : Int) ∧ ∀ k, k < i → 0 ≤ (E.getD k (0, 0)).1 ∧ (E.getD k (0, 0)).1 < N ∧ 0 ≤ (E.getD k (0, 0)).2 ∧ (E.getD k (0, 0)).2 < N) (Nat.zero_le _) ⟨rfl, fun a ha => by omega⟩ ?_) ?_
  · rintro i v hi ⟨rfl, h2⟩
    refine gIte (fun h3 => ?_) fun h3 => ?_
    rotate_left
    · have e : i = E.length := by omega
      subst e
      exact gSome ⟨by omega, by omega, by omega, h2⟩
    refine gChk ⟨by omega, by omega⟩ ?_
    simp only [toNat_nat]
    refine gIte (fun h4 => gSome ⟨rfl, fun h => ?_⟩) fun h4 => gSome ⟨by omega, by simp, fun k hk => ?_⟩
    · have := h.bd i (by omega); omega
    · rcases Nat.lt_succ_iff_lt_or_eq.1 hk with q | q
      · exact h2 k q
      · subst q; omega
  · rintro (_ | e) hz
    · exact gSome ⟨.inl rfl, fun _ => hz, fun _ => rfl⟩
    · obtain ⟨rfl, hz⟩ := hz
      exact gSome ⟨.inr rfl, fun h => by omega, fun h => absurd h hz⟩
theorem CG.ends {N : Nat} {E : List (Int × Int)} (h : CG N E) : EndsLt N E ∧ ∀ k, k < E.length → (E.getD k (0, 0)).1 = ((hA E k : Nat) : Int) ∧ (E.getD k (0, 0)).2 = ((hB E k : Nat) : Int) :=
  ⟨fun k hk => by have := h.bd k hk; unfold hA hB; omega, fun k hk => by have := h.bd k hk; unfold hA hB; omega⟩

/-! ### who hangs with whom -/
/-- What is told by one list of roots: F is the root of each vertex. -/
structure Rts (N : Nat) (E : List (Int × Int)) (S : Nat) (R : List Int) (F d : Nat → Nat) : Prop where
  len : R.length = N
  rn : ∀ v, v < N → ∃ u : Nat, R.getD v 0 = (u : Int) ∧ u < N ∧ F u = F v ∧ (u ≠ v → d u < d v) ∧ (u = v ↔ F v = v)
  fn : ∀ v, v < N → F v < N ∧ F (F v) = F v
  con : ∀ u v, u < N → v < N → (Con E S u v ↔ F u = F v)
theorem find_spec {N S : Nat} {E : List (Int × Int)} {R : List Int} {F d : Nat → Nat} (h : Rts N E S R F d) {v : Nat} (hv : v < N) : kinds_forest_1 (v : Int) R = some ((F v : Nat) : Int) := by
  refine Gets.eq ?_
  unfold kinds_forest_1
  refine gBind (R := fun r => r = ((F v : Nat) : Int)) (gLoop (fun x : Int => ∃ u : Nat, x = (u : Int) ∧ u < N ∧ F u = F v) (fun x : Int => d x.toNat) ⟨v, rfl, hv, rfl⟩ ?_) fun r hr => gSome hr
  rintro _ ⟨u, rfl, hu, hF⟩
  obtain ⟨t, t1, t2, t3, t4, t5⟩ := h.rn u hu
  have hl := h.len
  refine gChk ⟨by omega, by omega⟩ ?_
  simp only [toNat_nat, t1]
  refine gIte (fun h1 => gChk ⟨by omega, by omega⟩ (gSome ⟨⟨t, rfl, t2, t3.trans hF⟩, ?_⟩)) fun h1 => gSome ?_
  · exact t4 (by omega)
  · have e : t = u := by omega
    show ((u : Nat) : Int) = ((F v : Nat) : Int)
    rw [← hF, t5.1 e]
theorem Rts.union {N S k : Nat} {E : List (Int × Int)} {R : List Int} {F d : Nat → Nat} (h : Rts N E S R F d) (hE : EndsLt N E) (hk : k < E.length) (hne : F (hA E k) ≠ F (hB E k)) :
    ∃ F' d', Rts N E (S ||| 2 ^ k) (R.set (F (hA E k)) ((F (hB E k) : Nat) : Int)) F' d' := by
  obtain ⟨ha, hb⟩ := hE k hk
  obtain ⟨a1, a2⟩ := h.fn _ ha
  obtain ⟨b1, b2⟩ := h.fn _ hb
  obtain ⟨a, ea⟩ : ∃ a, a = F (hA E k) := ⟨_, rfl⟩
  obtain ⟨b, eb⟩ : ∃ b, b = F (hB E k) := ⟨_, rfl⟩
  rw [← ea] at a1 a2 hne ⊢
  rw [← eb] at b1 b2 hne ⊢
  refine ⟨fun v => if F v = a then b else F v, fun v => if F v = a then d v + d b + 1 else d v, ⟨by rw [List.length_set]; exact h.len, fun v hv => ?_, fun v hv => ?_, fun u v hu hv => ?_⟩⟩
  · by_cases q : v = a
    · subst q
      refine ⟨b, ?_, b1, ?_, fun _ => ?_, ?_⟩
      · rw [List.getD_eq_getElem?_getD, List.getElem?_set, if_pos rfl, if_pos (by rw [h.len]; exact hv)]; rfl
      · show (if F b = v then b else F b) = if F v = v then b else F v
        rw [if_pos a2, b2, if_neg (Ne.symm hne)]
      · show (if F b = v then _ else d b) < if F v = v then d v + d b + 1 else _
        rw [if_pos a2, b2, if_neg (Ne.symm hne)]; omega
      · show b = v ↔ (if F v = v then b else F v) = v
        rw [if_pos a2]
    · obtain ⟨u, u1, u2, u3, u4, u5⟩ := h.rn v hv
      refine ⟨u, ?_, u2, ?_, fun hu => ?_, ?_⟩
      · rw [List.getD_eq_getElem?_getD, List.getElem?_set, if_neg (Ne.symm q), ← List.getD_eq_getElem?_getD]; exact u1
      · show (if F u = a then b else F u) = if F v = a then b else F v
        rw [u3]
      · show (if F u = a then d u + d b + 1 else d u) < if F v = a then d v + d b + 1 else d v
        have := u4 hu
        rw [u3]; split <;> omega
      · show u = v ↔ (if F v = a then b else F v) = v
        by_cases c : F v = a
        · rw [if_pos c]
          constructor
          · intro e; exact absurd ((u5.1 e).symm.trans c) q
          · intro e
            rw [← e, b2] at c
            exact absurd c.symm hne
        · rw [if_neg c]; exact u5
  · obtain ⟨v1, v2⟩ := h.fn v hv
    show (if F v = a then b else F v) < N ∧ (if F (if F v = a then b else F v) = a then b else F (if F v = a then b else F v)) = if F v = a then b else F v
    by_cases c : F v = a
    · simp only [if_pos c, b2, if_neg (Ne.symm hne)]; exact ⟨b1, trivial⟩
    · simp only [if_neg c, v2]; exact ⟨v1, trivial⟩
  · rw [Con_add hk, h.con u v hu hv, h.con u _ hu ha, h.con _ v hb hv, h.con u _ hu hb, h.con _ v ha hv, ← ea, ← eb]
    show _ ↔ (if F u = a then b else F u) = if F v = a then b else F v
    by_cases c1 : F u = a <;> by_cases c2 : F v = a
    · simp [c1, c2]
    · simp only [c1, if_true, if_neg c2, true_and]
      constructor
      · rintro (e | e | ⟨e, e'⟩)
        · exact absurd e.symm c2
        · exact e
        · exact absurd e hne
      · intro e; exact .inr (.inl e)
    · simp only [c2, if_true, if_neg c1]
      constructor
      · rintro (e | ⟨e, e'⟩ | ⟨e, _⟩)
        · exact absurd e c1
        · exact absurd e c1
        · exact e
      · intro e; exact .inr (.inr ⟨e, trivial⟩)
    · simp only [if_neg c1, if_neg c2, false_and, c1]
      constructor
      · rintro (e | e | ⟨e, e'⟩)
        · exact e
        · exact e.elim
        · exact absurd e'.symm c2
      · intro e; exact .inl e

/-- Each edge joins what hung apart. -/
def GF (E : List (Int × Int)) (s : Nat) : Prop := ∀ k, k < E.length → s.testBit k = true → ¬ Con E (s &&& (2 ^ k - 1)) (hA E k) (hB E k)
theorem pre_succ (s k : Nat) : s &&& (2 ^ (k + 1) - 1) = if s.testBit k = true then (s &&& (2 ^ k - 1)) ||| 2 ^ k else s &&& (2 ^ k - 1) := bx fun j => by
  have e : (s &&& (2 ^ (k + 1) - 1)).testBit j = (s.testBit j && decide (j < k + 1)) := by rw [Nat.testBit_and, Nat.testBit_two_pow_sub_one]
  rw [e]
  by_cases c : s.testBit k = true
  · rw [if_pos c, Nat.testBit_or, Nat.testBit_and, Nat.testBit_two_pow_sub_one, testBit_pow]
    by_cases d : k = j
    · subst d; simp [c]
    · have : decide (j < k + 1) = decide (j < k) := by simp; omega
      rw [this]; simp [d]
  · rw [if_neg c, Nat.testBit_and, Nat.testBit_two_pow_sub_one]
    by_cases d : k = j
    · subst d; simp [c]
    · have : decide (j < k + 1) = decide (j < k) := by simp; omega
      rw [this]
theorem con0 {E : List (Int × Int)} {u v : Nat} : Con E 0 u v ↔ u = v := by
  constructor
  · intro h
    induction h with
    | refl => rfl
    | tail _ a ih => obtain ⟨k, _, h2, _⟩ := a; simp at h2
  · rintro rfl; exact .refl _
theorem forest_spec {N : Nat} {E : List (Int × Int)} (h : CG N E) (s : Nat) : Gets (kinds_forest N E s) (fun b => b = true ↔ GF E s) := by
  obtain ⟨hE, hx⟩ := h.ends
  have h7 := h.n7
  have h8 := h.e8
  unfold kinds_forest
  refine gChk ⟨by omega, by omega⟩ ?_
  refine gBind (R := fun R => R.length = N ∧ ∀ v, v < N → R.getD v 0 = (v : Int)) (gFor N (fun k (x : List Int × Int) => x.2 = (k : Int) ∧ x.1.length = N ∧ ∀ v, v < k → x.1.getD v 0 = (v : Int)) (Nat.zero_le _) ⟨rfl, by simp, fun v hv => by omega⟩ ?_) ?_
  · rintro k ⟨R, _⟩ hk ⟨rfl, h1, h2⟩
    dsimp only at h1 h2 ⊢
    simp only [toNat_nat, List.length_replicate]
    refine gIte (fun h3 => gChk ⟨by omega, by omega⟩ (gSome ⟨by omega, by simp, by rw [List.length_set]; exact h1, fun v hv => ?_⟩)) fun h3 => gSome ⟨h1, fun v hv => h2 v (by omega)⟩
    rw [List.getD_eq_getElem?_getD, List.getElem?_set]
    by_cases c : k = v
    · subst c; rw [if_pos rfl, if_pos (by omega)]; rfl
    · rw [if_neg c, ← List.getD_eq_getElem?_getD]; exact h2 v (by omega)
  rintro R0 ⟨r1, r2⟩
  have start : Rts N E (s &&& (2 ^ 0 - 1)) R0 id (fun _ => 0) := by
    have e0 : s &&& (2 ^ 0 - 1) = 0 := by simp
    rw [e0]
    exact ⟨r1, fun v hv => ⟨v, r2 v hv, hv, rfl, fun c => absurd rfl c, by simp⟩, fun v hv => ⟨hv, rfl⟩, fun u v _ _ => con0⟩
  refine gBind (R := fun z : Unit ⊕ Bool => match z with | .inl _ => GF E s | .inr b => b = false ∧ ¬ GF E s) (gFor E.length (fun k (x : List Int × Int) => x.2 = (k : Int) ∧ (∃ F d, Rts N E (s &&& (2 ^ k - 1)) x.1 F d) ∧ ∀ j, j < k → s.testBit j = true → ¬ Con E (s &&& (2 ^ j - 1)) (hA E j) (hB E j)) (Nat.zero_le _) ⟨rfl, ⟨_, _, start⟩, fun j hj => by omega⟩ ?_) ?_
  · rintro k ⟨R, _⟩ hk ⟨rfl, ⟨F, d, hR⟩, h2⟩
    dsimp only at hR h2 ⊢
    refine gIte (fun h3 => ?_) fun h3 => ?_
    rotate_left
    · have e : k = E.length := by omega
      subst e
      exact gSome h2
    have hkl : k < E.length := by omega
    obtain ⟨x1, x2⟩ := hx k hkl
    obtain ⟨a, b⟩ := hE k hkl
    have hb := bit_nat s k
    rw [toNat_nat] at hb
    simp only [toNat_nat, hb]
    refine gChk ⟨by omega, by omega⟩ (gChk (by omega) ?_)
    refine gIte (fun h4 => ?_) fun h4 => ?_
    · have hbit : ¬ s.testBit k = true := fun q => by rw [if_pos q] at h4; cases h4
      refine gSome ⟨hkl, by simp, ⟨F, d, ?_⟩, fun j hj hbj => ?_⟩
      · rw [pre_succ, if_neg hbit]; exact hR
      · rcases Nat.lt_succ_iff_lt_or_eq.1 hj with q | q
        · exact h2 j q hbj
        · subst q; exact absurd hbj hbit
    · have hbit : s.testBit k = true := by
        by_cases q : s.testBit k = true
        · exact q
        · exact absurd (if_neg q) h4
      rw [x1, x2]
      refine gBindE (find_spec hR a) (gBindE (find_spec hR b) (gIte (fun h5 => ?_) fun h5 => ?_))
      · refine gSome ⟨rfl, fun h => h k hkl hbit ((hR.con _ _ a b).2 (by omega))⟩
      · have hne : F (hA E k) ≠ F (hB E k) := fun e => h5 (by rw [e])
        obtain ⟨F', d', hR'⟩ := hR.union hE hkl hne
        have hl := hR.len
        have hf := (hR.fn _ a).1
        refine gChk ⟨by omega, by omega⟩ (gSome ⟨hkl, by simp, ⟨F', d', ?_⟩, fun j hj hbj => ?_⟩)
        · rw [pre_succ, if_pos hbit]; exact hR'
        · rcases Nat.lt_succ_iff_lt_or_eq.1 hj with q | q
          · exact h2 j q hbj
          · subst q; exact fun c => hne ((hR.con _ _ a b).1 c)
  · rintro (_ | e) hz
    · exact gSome ⟨fun _ => hz, fun _ => rfl⟩
    · obtain ⟨rfl, hz⟩ := hz
      exact gSome ⟨fun h => (by cases h), fun h => absurd h hz⟩
theorem GF0 (E : List (Int × Int)) : GF E 0 := fun k _ h => by simp at h
/-- The sets of edges that the code finds. -/
theorem Graphic_spec {N : Nat} {E : List (Int × Int)} (h : CG N E) : Gets (kinds_Graphic N E) (fun y => ∃ K, y = ((E.length : Int), cs K, 0) ∧ Fam E.length K ∧ ∀ s, s ∈ K ↔ s < 2 ^ E.length ∧ GF E s ∧ ∀ t, t < 2 ^ E.length → GF E t → cnt E.length t ≤ cnt E.length s) := by
  unfold kinds_Graphic
  refine gBind (CheckGraph_spec N E) ?_
  rintro e ⟨h1, h2⟩
  rw [h2.2 h]
  refine gIte (fun h => absurd rfl h) fun _ => ?_
  refine gBind (greatest_spec h.e8 (p := fun s => GF E s) (fun s hs => ?_) (GF0 E)) ?_
  · unfold kinds_Graphic_1
    exact gBind (forest_spec h s) fun b hb => gSome hb
  · rintro y ⟨K, rfl, hF, hK⟩
    exact gSome ⟨K, rfl, hF, hK⟩
end Go.SH
