/-
  Orders as lists, how many there are; matroids by new names; LAGRANGE by fibres. All orders that make one matroid another one, gone through: counted, the first one kept, where elements go. The first order that makes one matroid another one; where elements go; the first of all by new names. Rename, Canon and Orbits as they compute.  Conditions: none.
-/
import Derived.Test.YthofnmjokdjppaaLSo
import Derived.Test.YthofnmjokdjppaaSpsameg
import Derived.Test.YthofnmjokdjppaaSpsameo
import Derived.Test.YthofnmjokdjppaaLUq
import Derived.Test.YthofnmjokdjppaaSpsamec
import Derived.Test.YthofnmjokdjppaaSpsamer
import Derived.Test.YthofnmjokdjppaaSprotalaw
import Derived.Test.YthofnmjokdjppaaSpslices

set_option linter.unusedSimpArgs false
set_option linter.unusedVariables false
namespace Go.SH
open Go Go.AX

/-- All orders of n elements, by their first j. -/
def ext (n : Nat) : Nat → List (List Nat)
  | 0 => [[]]
  | j + 1 => (ext n j).flatMap fun p => ((List.range n).filter fun k => !p.contains k).map fun k => p ++ [k]
theorem mem_ext {n : Nat} : ∀ {j : Nat} {p : List Nat}, p ∈ ext n j ↔ p.length = j ∧ p.Nodup ∧ ∀ k, k ∈ p → k < n
  | 0, p => by
    rw [ext, List.mem_singleton]
    constructor
    · rintro rfl; exact ⟨rfl, List.nodup_nil, fun k hk => by simp at hk⟩
    · rintro ⟨h, _⟩; exact List.length_eq_zero_iff.1 h
  | j + 1, p => by
    rw [ext, List.mem_flatMap]
    constructor
    · rintro ⟨q, hq, hp⟩
      obtain ⟨k, hk, rfl⟩ := List.mem_map.1 hp
      obtain ⟨h1, h2, h3⟩ := mem_ext.1 hq
      rw [List.mem_filter, List.mem_range] at hk
      have hkq : k ∉ q := by simpa using hk.2
      refine ⟨by rw [List.length_append, h1]; rfl, ?_, fun x hx => ?_⟩
      · rw [List.nodup_append]
        refine ⟨h2, List.pairwise_singleton _ _, fun a ha b hb e => ?_⟩
        rw [List.mem_singleton] at hb
        subst hb; subst e; exact hkq ha
      · rcases List.mem_append.1 hx with c | c
        · exact h3 x c
        · rw [List.mem_singleton.1 c]; exact hk.1
    · rintro ⟨h1, h2, h3⟩
      have hne : p ≠ [] := fun e => by rw [e] at h1; cases h1
      have e := List.dropLast_concat_getLast hne
      rw [← e, List.nodup_append] at h2
      obtain ⟨n1, _, n3⟩ := h2
      refine ⟨p.dropLast, mem_ext.2 ⟨by rw [List.length_dropLast, h1]; rfl, n1, fun k hk => h3 k (by rw [← e]; exact List.mem_append_left _ hk)⟩, List.mem_map.2 ⟨p.getLast hne, ?_, e⟩⟩
      rw [List.mem_filter, List.mem_range]
      refine ⟨h3 _ (List.getLast_mem hne), ?_⟩
      have : p.getLast hne ∉ p.dropLast := fun q => n3 _ q _ (List.mem_singleton.2 rfl) rfl
      simpa using this
theorem nodup_flatMap {α β : Type} {f : α → List β} : ∀ {L : List α}, L.Nodup → (∀ a, a ∈ L → (f a).Nodup) → (∀ a, a ∈ L → ∀ b, b ∈ L → ∀ x, x ∈ f a → x ∈ f b → a = b) → (L.flatMap f).Nodup
  | [], _, _, _ => by rw [List.flatMap_nil]; exact List.nodup_nil
  | a :: L, h1, h2, h3 => by
    rw [List.flatMap_cons, List.nodup_append]
    have hn := List.nodup_cons.1 h1
    refine ⟨h2 a List.mem_cons_self, nodup_flatMap hn.2 (fun b hb => h2 b (List.mem_cons_of_mem _ hb)) (fun b hb c hc => h3 b (List.mem_cons_of_mem _ hb) c (List.mem_cons_of_mem _ hc)), fun x hx y hy e => ?_⟩
    subst e
    obtain ⟨b, hb, hxb⟩ := List.mem_flatMap.1 hy
    have := h3 a List.mem_cons_self b (List.mem_cons_of_mem _ hb) x hx hxb
    subst this; exact hn.1 hb
theorem nodup_map_inj {α β : Type} {f : α → β} : ∀ {L : List α}, L.Nodup → (∀ a, a ∈ L → ∀ b, b ∈ L → f a = f b → a = b) → (L.map f).Nodup
  | [], _, _ => List.nodup_nil
  | a :: L, h1, h2 => by
    have hn := List.nodup_cons.1 h1
    rw [List.map_cons, List.nodup_cons]
    refine ⟨fun q => ?_, nodup_map_inj hn.2 fun b hb c hc => h2 b (List.mem_cons_of_mem _ hb) c (List.mem_cons_of_mem _ hc)⟩
    obtain ⟨b, hb, e⟩ := List.mem_map.1 q
    have := h2 a List.mem_cons_self b (List.mem_cons_of_mem _ hb) e.symm
    subst this; exact hn.1 hb
theorem app_inj {p q : List Nat} {a b : Nat} (h : p ++ [a] = q ++ [b]) : p = q ∧ a = b := by
  have := List.append_inj' h rfl
  exact ⟨this.1, by simpa using this.2⟩
theorem ext_nodup (n : Nat) : ∀ j, (ext n j).Nodup
  | 0 => List.pairwise_singleton _ _
  | j + 1 => by
    refine nodup_flatMap (ext_nodup n j) (fun p hp => nodup_map_inj (List.Pairwise.filter _ List.nodup_range) fun a _ b _ e => (app_inj e).2) fun p hp q hq x hx hy => ?_
    obtain ⟨a, _, rfl⟩ := List.mem_map.1 hx
    obtain ⟨b, _, e⟩ := List.mem_map.1 hy
    exact (app_inj e).1.symm
theorem filter_two {α : Type} (p : α → Bool) : ∀ L : List α, (L.filter p).length + (L.filter fun a => !p a).length = L.length
  | [] => rfl
  | a :: L => by
    have := filter_two p L
    rw [List.filter_cons, List.filter_cons]
    cases p a <;> simp <;> omega
/-- One into the other. -/
theorem inj_lenG {α β : Type} {g : α → β} (K : List α) (C : List β) (h1 : K.Nodup) (h2 : ∀ a, a ∈ K → ∀ b, b ∈ K → g a = g b → a = b) (h3 : ∀ a, a ∈ K → g a ∈ C) : K.length ≤ C.length := by
  classical
  induction K generalizing C with
  | nil => exact Nat.zero_le _
  | cons a K ih =>
    have hc : g a ∈ C := h3 a List.mem_cons_self
    have hn := List.nodup_cons.1 h1
    have := ih (C.erase (g a)) hn.2 (fun x hx y hy => h2 x (List.mem_cons_of_mem _ hx) y (List.mem_cons_of_mem _ hy)) fun x hx => by
      refine (List.mem_erase_of_ne fun q => ?_).2 (h3 x (List.mem_cons_of_mem _ hx))
      have := h2 x (List.mem_cons_of_mem _ hx) a List.mem_cons_self q
      subst this; exact hn.1 hx
    rw [List.length_erase_of_mem hc] at this
    have : 0 < C.length := List.length_pos_of_mem hc
    rw [List.length_cons]; omega
theorem left_len {n : Nat} {p : List Nat} (h2 : p.Nodup) (h3 : ∀ k, k ∈ p → k < n) : ((List.range n).filter fun k => !p.contains k).length = n - p.length := by
  have h := filter_two (fun k => p.contains k) (List.range n)
  rw [List.length_range] at h
  have e : ((List.range n).filter fun k => p.contains k).length = p.length := by
    refine Nat.le_antisymm (inj_lenG (g := id) _ _ (List.Pairwise.filter _ List.nodup_range) (fun _ _ _ _ q => q) fun a ha => ?_) (inj_lenG (g := id) _ _ h2 (fun _ _ _ _ q => q) fun a ha => ?_)
    · simpa using (List.mem_filter.1 ha).2
    · exact List.mem_filter.2 ⟨List.mem_range.2 (h3 a ha), by simpa using ha⟩
  omega
def fact : Nat → Nat
  | 0 => 1
  | n + 1 => (n + 1) * fact n
theorem flat_len {α β : Type} {f : α → List β} {c : Nat} : ∀ L : List α, (∀ a, a ∈ L → (f a).length = c) → (L.flatMap f).length = L.length * c
  | [], _ => by simp
  | a :: L, h => by
    rw [List.flatMap_cons, List.length_append, flat_len L fun b hb => h b (List.mem_cons_of_mem _ hb), h a List.mem_cons_self, List.length_cons, Nat.succ_mul]; omega
theorem ext_len (n : Nat) : ∀ j, j ≤ n → (ext n j).length * fact (n - j) = fact n
  | 0, _ => by rw [ext]; simp
  | j + 1, hj => by
    have ih := ext_len n j (by omega)
    have : (ext n (j + 1)).length = (ext n j).length * (n - j) := by
      rw [ext]
      refine flat_len _ fun p hp => ?_
      obtain ⟨h1, h2, h3⟩ := mem_ext.1 hp
      rw [List.length_map, left_len h2 h3, h1]
    rw [this, Nat.mul_assoc]
    have e : n - j = (n - (j + 1)) + 1 := by omega
    rw [show (n - j) * fact (n - (j + 1)) = fact (n - j) by rw [e]; rfl]
    exact ih
theorem ext_all (n : Nat) : (ext n n).length = fact n := by
  have := ext_len n n (Nat.le_refl n)
  rw [Nat.sub_self] at this
  rw [← this, fact, Nat.mul_one]

/-- How many of a list are so. -/
noncomputable def cntP {α : Type} (O : List α) (p : α → Prop) : Nat := (O.filter fun a => @decide (p a) (Classical.propDecidable _)).length
section
variable {α : Type} {O : List α}
theorem cntP_congr {p q : α → Prop} (h : ∀ a, a ∈ O → (p a ↔ q a)) : cntP O p = cntP O q := by
  unfold cntP
  rw [List.filter_congr fun a ha => ?_]
  classical
  exact decide_eq_decide.2 (h a ha)
theorem cntP_cons {a : α} {p : α → Prop} : cntP (a :: O) p = (@ite _ (p a) (Classical.propDecidable _) 1 0) + cntP O p := by
  classical
  unfold cntP
  rw [List.filter_cons]
  by_cases h : p a
  · simp [h]; omega
  · simp [h]
theorem cntP_split {p q r : α → Prop} (h : ∀ a, a ∈ O → (p a ↔ q a ∨ r a)) (hd : ∀ a, a ∈ O → q a → ¬ r a) : cntP O p = cntP O q + cntP O r := by
  classical
  induction O with
  | nil => rfl
  | cons a O ih =>
    rw [cntP_cons, cntP_cons, cntP_cons, ih (fun b hb => h b (List.mem_cons_of_mem _ hb)) fun b hb => hd b (List.mem_cons_of_mem _ hb)]
    have h1 := h a List.mem_cons_self
    have h2 := hd a List.mem_cons_self
    by_cases c : q a <;> by_cases d : r a
    · exact absurd d (h2 c)
    · have : p a := h1.2 (.inl c)
      simp [c, d, this]; omega
    · have : p a := h1.2 (.inr d)
      simp [c, d, this]; omega
    · have : ¬ p a := fun z => (h1.1 z).elim c d
      simp [c, d, this]
theorem cntP_none {p : α → Prop} (h : ∀ a, a ∈ O → ¬ p a) : cntP O p = 0 := by
  classical
  unfold cntP
  rw [List.filter_eq_nil_iff.2 fun a ha => by simpa using h a ha]; rfl
theorem cntP_all {p : α → Prop} (h : ∀ a, a ∈ O → p a) : cntP O p = O.length := by
  classical
  unfold cntP
  rw [List.filter_eq_self.2 fun a ha => by simpa using h a ha]
theorem cntP_le {p : α → Prop} : cntP O p ≤ O.length := List.length_filter_le _ _
theorem cntP_pos {p : α → Prop} {a : α} (ha : a ∈ O) (h : p a) : 0 < cntP O p := by
  classical
  exact List.length_pos_of_mem (List.mem_filter.2 ⟨ha, by simpa using h⟩)
theorem cntP_one {p : α → Prop} {a : α} (hn : O.Nodup) (ha : a ∈ O) (h : ∀ b, b ∈ O → (p b ↔ b = a)) : cntP O p = 1 := by
  classical
  induction O with
  | nil => simp at ha
  | cons b O ih =>
    have hn' := List.nodup_cons.1 hn
    rw [cntP_cons]
    rcases List.mem_cons.1 ha with e | c
    · subst e
      rw [cntP_none fun x hx z => ?_]
      · have : p a := (h a ha).2 rfl
        simp [this]
      · have := (h x (List.mem_cons_of_mem _ hx)).1 z
        subst this; exact hn'.1 hx
    · rw [ih hn'.2 c fun x hx => h x (List.mem_cons_of_mem _ hx)]
      have : ¬ p b := fun z => by
        have := (h b List.mem_cons_self).1 z
        subst this; exact hn'.1 c
      simp [this]
theorem cntP_inj {β : Type} {O' : List β} {p : α → Prop} {q : β → Prop} (hn : O.Nodup) (g : α → β) (h1 : ∀ a, a ∈ O → p a → g a ∈ O' ∧ q (g a)) (h2 : ∀ a, a ∈ O → ∀ b, b ∈ O → g a = g b → a = b) : cntP O p ≤ cntP O' q := by
  classical
  refine inj_lenG (g := g) _ _ (List.Pairwise.filter _ hn) (fun a ha b hb => h2 a (List.mem_filter.1 ha).1 b (List.mem_filter.1 hb).1) fun a ha => ?_
  obtain ⟨z1, z2⟩ := List.mem_filter.1 ha
  have := h1 a z1 (by simpa using z2)
  exact List.mem_filter.2 ⟨this.1, by simpa using this.2⟩
/-- Fibres alike. -/
theorem fibres {β : Type} (g : α → β) (c : Nat) (p : α → Prop) : ∀ (L : List β), L.Nodup → (∀ b, b ∈ L → cntP O (fun a => p a ∧ g a = b) = c) → cntP O (fun a => p a ∧ g a ∈ L) = L.length * c
  | [], _, _ => by rw [cntP_none fun a _ z => by simp at z]; simp
  | b :: L, hn, h => by
    have hn' := List.nodup_cons.1 hn
    rw [cntP_split (q := fun a => p a ∧ g a = b) (r := fun a => p a ∧ g a ∈ L) (fun a _ => ?_) (fun a _ h1 h2 => ?_), h b List.mem_cons_self, fibres g c p L hn'.2 fun b' hb => h b' (List.mem_cons_of_mem _ hb), List.length_cons, Nat.succ_mul]
    · omega
    · rw [List.mem_cons]; constructor
      · rintro ⟨z1, z2 | z2⟩
        · exact .inl ⟨z1, z2⟩
        · exact .inr ⟨z1, z2⟩
      · rintro (⟨z1, z2⟩ | ⟨z1, z2⟩)
        · exact ⟨z1, .inl z2⟩
        · exact ⟨z1, .inr z2⟩
    · rw [← h1.2] at hn'; exact hn'.1 h2.2
end
/-! ### orders and what they do -/
abbrev pf (Q : List Nat) : Nat → Nat := fun i => Q.getD i 0
abbrev ords (n : Nat) : List (List Nat) := ext n n
section
variable {n : Nat} {p q : List Nat}
theorem ords_pla (h : p ∈ ords n) : Pla n n (pf p) := by
  obtain ⟨h1, h2, h3⟩ := mem_ext.1 h
  exact ⟨fun i hi => h3 _ (getD_mem (by omega)), fun i j hi hj e => nodup_getD h2 (by omega) (by omega) e⟩
def lst (n : Nat) (π : Nat → Nat) : List Nat := (List.range n).map π
theorem lst_get {π : Nat → Nat} {i : Nat} (hi : i < n) : (lst n π).getD i 0 = π i := by
  rw [lst, List.getD_eq_getElem?_getD, List.getElem?_map, List.getElem?_range hi]; rfl
theorem lst_len {π : Nat → Nat} : (lst n π).length = n := by rw [lst, List.length_map, List.length_range]
theorem lst_mem {π : Nat → Nat} (h : Pla n n π) : lst n π ∈ ords n := by
  refine mem_ext.2 ⟨lst_len, nodup_map_inj List.nodup_range fun a ha b hb e => h.inj a b (List.mem_range.1 ha) (List.mem_range.1 hb) e, fun k hk => ?_⟩
  obtain ⟨i, hi, rfl⟩ := List.mem_map.1 hk
  exact h.lt i (List.mem_range.1 hi)
theorem list_extN {l k : List Nat} (h : l.length = k.length) (e : ∀ i, i < l.length → l.getD i 0 = k.getD i 0) : l = k := by
  refine List.ext_getElem h fun i h1 h2 => ?_
  have := e i h1
  rwa [List.getD_eq_getElem?_getD, List.getD_eq_getElem?_getD, List.getElem?_eq_getElem h1, List.getElem?_eq_getElem h2] at this
theorem ords_ext (hp : p ∈ ords n) (hq : q ∈ ords n) (h : ∀ i, i < n → pf p i = pf q i) : p = q :=
  list_extN ((mem_ext.1 hp).1.trans (mem_ext.1 hq).1.symm) fun i hi => h i (by rw [(mem_ext.1 hp).1] at hi; exact hi)
def comp (n : Nat) (p q : List Nat) : List Nat := lst n fun i => pf p (pf q i)
theorem comp_get {i : Nat} (hi : i < n) : pf (comp n p q) i = pf p (pf q i) := lst_get hi
theorem comp_mem (hp : p ∈ ords n) (hq : q ∈ ords n) : comp n p q ∈ ords n := by
  have h1 := ords_pla hp
  have h2 := ords_pla hq
  exact lst_mem ⟨fun i hi => h1.lt _ (h2.lt i hi), fun i j hi hj e => h2.inj i j hi hj (h1.inj _ _ (h2.lt i hi) (h2.lt j hj) e)⟩
theorem comp_inj {q' : List Nat} (hp : p ∈ ords n) (hq : q ∈ ords n) (hq' : q' ∈ ords n) (e : comp n p q = comp n p q') : q = q' := by
  refine ords_ext hq hq' fun i hi => ?_
  have h : pf (comp n p q) i = pf (comp n p q') i := by rw [e]
  rw [comp_get hi, comp_get hi] at h
  exact (ords_pla hp).inj _ _ ((ords_pla hq).lt i hi) ((ords_pla hq').lt i hi) h
theorem inv_ex (hp : p ∈ ords n) : ∃ τ, τ ∈ ords n ∧ (∀ i, i < n → pf p (pf τ i) = i) ∧ ∀ i, i < n → pf τ (pf p i) = i := by
  have h := ords_pla hp
  obtain ⟨τ, t1, t2⟩ := same_im (f := pf p) (pla_id n) (by rw [h.onto, im_id (full_lt n)])
  have e : ∀ i, i < n → pf (lst n τ) i = τ i := fun i hi => lst_get hi
  refine ⟨lst n τ, lst_mem t1, fun i hi => by rw [e i hi]; exact t2 i hi, fun i hi => ?_⟩
  rw [e _ (h.lt i hi)]
  exact h.inj _ _ (t1.lt _ (h.lt i hi)) hi (t2 _ (h.lt i hi))
theorem im_comp2 (hq : q ∈ ords n) (s : Nat) : im n n (pf (comp n p q)) s = im n n (pf p) (im n n (pf q) s) := by
  rw [im_comp (ords_pla hq).lt, im_congr fun i hi => comp_get hi]
theorem im_inv {τ : List Nat} (hp : p ∈ ords n) (h : ∀ i, i < n → pf τ (pf p i) = i) {s : Nat} (hs : s < 2 ^ n) : im n n (pf τ) (im n n (pf p) s) = s := by
  rw [im_comp (ords_pla hp).lt, im_congr h, im_id hs]
/-- Sets by new names, rising. -/
noncomputable def ren (n : Nat) (p B : List Nat) : List Nat := (List.range (2 ^ n)).filter fun s => @decide (∃ b, b ∈ B ∧ s = im n n (pf p) b) (Classical.propDecidable _)
theorem mem_ren {B : List Nat} {s : Nat} : s ∈ ren n p B ↔ ∃ b, b ∈ B ∧ s = im n n (pf p) b := by
  classical
  rw [ren, List.mem_filter, List.mem_range]
  constructor
  · rintro ⟨_, h⟩; simpa using h
  · rintro ⟨b, h1, rfl⟩; exact ⟨im_lt .., by simpa using ⟨b, h1, rfl⟩⟩
theorem ren_fam (h8 : n ≤ 8) (B : List Nat) : Fam n (ren n p B) := filter_fam h8 _
theorem ren_comp (h8 : n ≤ 8) (hq : q ∈ ords n) (B : List Nat) : ren n (comp n p q) B = ren n p (ren n q B) :=
  (ren_fam h8 _).ext (ren_fam h8 _) fun s => by
    rw [mem_ren, mem_ren]
    constructor
    · rintro ⟨b, h1, rfl⟩; exact ⟨_, mem_ren.2 ⟨b, h1, rfl⟩, im_comp2 hq b⟩
    · rintro ⟨t, h1, rfl⟩
      obtain ⟨b, h2, rfl⟩ := mem_ren.1 h1
      exact ⟨b, h2, (im_comp2 hq b).symm⟩
theorem ren_id {B : List Nat} (hB : Fam n B) (hp : ∀ i, i < n → pf p i = i) : ren n p B = B :=
  (ren_fam hB.m8 _).ext hB fun s => by
    have e : ∀ b, b ∈ B → im n n (pf p) b = b := fun b hb => by rw [im_congr hp, im_id (hB.lt b hb)]
    rw [mem_ren]
    constructor
    · rintro ⟨b, h1, rfl⟩; rw [e b h1]; exact h1
    · intro h; exact ⟨s, h, (e s h).symm⟩
theorem ren_mat {B : List Nat} (hB : Mat n B) (hp : p ∈ ords n) : Mat n (ren n p B) ∧ ∀ s, s < 2 ^ n → rk n (ren n p B) (im n n (pf p) s) = rk n B s := by
  obtain ⟨τ, h1, h2, h3⟩ := inv_ex hp
  have hr := (ords_pla h1).rkF hB.rkF 0
  have e0 : ∀ s, rk n B (im n n (pf τ) s ||| 0) - rk n B 0 = rk n B (im n n (pf τ) s) := fun s => by rw [Nat.or_zero, hB.rk_zero]; rfl
  have e1 : ∀ s, s < 2 ^ n → im n n (pf τ) (im n n (pf p) s) = s := fun s hs => im_inv hp h3 hs
  have e2 : ∀ s, s < 2 ^ n → im n n (pf p) (im n n (pf τ) s) = s := fun s hs => im_inv h1 h2 hs
  have := hr.mat hB.m8 (ren_fam (p := p) hB.m8 B) ?_
  · refine ⟨this.1, fun s hs => ?_⟩
    rw [this.2 _ (im_lt ..)]
    show rk n B (im n n (pf τ) (im n n (pf p) s) ||| 0) - rk n B 0 = _
    rw [e0, e1 s hs]
  · intro s
    show _ ↔ s < 2 ^ n ∧ rk n B (im n n (pf τ) s ||| 0) - rk n B 0 = cnt n s ∧ rk n B (im n n (pf τ) s ||| 0) - rk n B 0 = rk n B (im n n (pf τ) (2 ^ n - 1) ||| 0) - rk n B 0
    rw [e0, e0, (ords_pla h1).onto, mem_ren]
    constructor
    · rintro ⟨b, h4, rfl⟩
      obtain ⟨b1, b2, b3⟩ := (hB.mem_iff b).1 h4
      rw [e1 b b1, (ords_pla hp).cnt b b1]
      exact ⟨im_lt .., b2, b3⟩
    · rintro ⟨s1, s2, s3⟩
      refine ⟨im n n (pf τ) s, (hB.mem_iff _).2 ⟨im_lt .., by rw [s2, (ords_pla h1).cnt s s1], s3⟩, (e2 s s1).symm⟩
/-- It makes one of the other. -/
theorem tr_iff {A C : List Nat} (hA : Mat n A) (hC : Mat n C) (hp : p ∈ ords n) : (∀ s, s < 2 ^ n → rk n A s = rk n C (im n n (pf p) s)) ↔ ren n p A = C := by
  constructor
  · intro h
    refine (ren_fam hA.m8 _).ext hC.toFam fun s => ?_
    obtain ⟨τ, h1, h2, h3⟩ := inv_ex hp
    have e2 : ∀ s, s < 2 ^ n → im n n (pf p) (im n n (pf τ) s) = s := fun s hs => im_inv h1 h2 hs
    rw [mem_ren]
    constructor
    · rintro ⟨b, b0, rfl⟩
      obtain ⟨b1, b2, b3⟩ := (hA.mem_iff b).1 b0
      refine (hC.mem_iff _).2 ⟨im_lt .., ?_, ?_⟩
      · rw [← h b b1, (ords_pla hp).cnt b b1]; exact b2
      · rw [← h b b1, b3, h _ (full_lt n), (ords_pla hp).onto]
    · intro hs
      obtain ⟨s1, s2, s3⟩ := (hC.mem_iff s).1 hs
      refine ⟨im n n (pf τ) s, (hA.mem_iff _).2 ⟨im_lt .., ?_, ?_⟩, (e2 s s1).symm⟩
      · rw [h _ (im_lt ..), e2 s s1, s2, (ords_pla h1).cnt s s1]
      · rw [h _ (im_lt ..), e2 s s1, s3, h _ (full_lt n), (ords_pla hp).onto]
  · rintro rfl s hs
    exact ((ren_mat hA hp).2 s hs).symm
end
/-! ### LAGRANGE -/
section
variable {n : Nat} {B : List Nat} (hB : Fam n B)
include hB
/-- Orders that leave it as it is. -/
noncomputable def aut (n : Nat) (B : List Nat) : Nat := cntP (ords n) fun p => ren n p B = B
theorem fibre_len {K p0 : List Nat} (hp : p0 ∈ ords n) (e : ren n p0 B = K) : cntP (ords n) (fun p => ren n p B = K) = aut n B := by
  have h8 := hB.m8
  obtain ⟨τ, h1, h2, h3⟩ := inv_ex hp
  refine Nat.le_antisymm (cntP_inj (ext_nodup n n) (comp n τ) (fun q hq hk => ⟨comp_mem h1 hq, ?_⟩) fun a ha b hb => comp_inj h1 ha hb) (cntP_inj (ext_nodup n n) (comp n p0) (fun q hq hk => ⟨comp_mem hp hq, ?_⟩) fun a ha b hb => comp_inj hp ha hb)
  · rw [ren_comp h8 hq, hk, ← e, ← ren_comp h8 hp, ren_id hB fun i hi => by rw [comp_get hi]; exact h3 i hi]
  · rw [ren_comp h8 hq, hk, e]
/-- LAGRANGE: unlike ones, times those that leave it, are all. -/
theorem lagrange {L : List (List Nat)} (hn : L.Nodup) (hL : ∀ K, K ∈ L ↔ ∃ p, p ∈ ords n ∧ ren n p B = K) : fact n = L.length * aut n B := by
  rw [← ext_all n, ← fibres (O := ords n) (fun p => ren n p B) (aut n B) (fun _ => True) L hn fun K hK => ?_]
  · exact (cntP_all fun p hp => ⟨trivial, (hL _).2 ⟨p, hp, rfl⟩⟩).symm
  · obtain ⟨p, hp, e⟩ := (hL K).1 hK
    rw [← fibre_len hB hp e]
    exact cntP_congr fun a _ => by simp
theorem aut_pos : 0 < aut n B := cntP_pos (lst_mem (pla_id n)) (ren_id hB fun i hi => lst_get hi)
omit hB in
/-- Those of a list are told apart. -/
theorem uniq_list {β : Type} : ∀ L : List β, ∃ K : List β, K.Nodup ∧ ∀ b, b ∈ K ↔ b ∈ L := fun L => by
  classical
  induction L with
  | nil => exact ⟨[], List.nodup_nil, fun _ => Iff.rfl⟩
  | cons a L ih =>
    obtain ⟨K, h1, h2⟩ := ih
    by_cases h : a ∈ K
    · refine ⟨K, h1, fun b => ?_⟩
      rw [List.mem_cons, h2]
      exact ⟨.inr, fun z => z.elim (fun e => by rw [e, ← h2]; exact h) id⟩
    · exact ⟨a :: K, List.nodup_cons.2 ⟨h, h1⟩, fun b => by rw [List.mem_cons, List.mem_cons, h2]⟩
theorem lagrange_dvd : fact n % aut n B = 0 := by
  obtain ⟨L, h1, h2⟩ := uniq_list ((ords n).map fun p => ren n p B)
  rw [lagrange hB h1 fun K => by rw [h2, List.mem_map]]
  exact Nat.mul_mod_left _ _
theorem aut_ren {p0 : List Nat} (hp : p0 ∈ ords n) : aut n (ren n p0 B) = aut n B := by
  have h8 := hB.m8
  obtain ⟨τ, h1, h2, h3⟩ := inv_ex hp
  have e : ren n τ (ren n p0 B) = B := by rw [← ren_comp h8 hp, ren_id hB fun i hi => by rw [comp_get hi]; exact h3 i hi]
  have hτ : ∀ q, q ∈ ords n → ren n q B = ren n (comp n q τ) (ren n p0 B) := fun q hq => by rw [ren_comp h8 h1, e]
  rw [← fibre_len hB hp rfl]
  show cntP (ords n) (fun p => ren n p (ren n p0 B) = ren n p0 B) = cntP (ords n) fun p => ren n p B = ren n p0 B
  have ci : ∀ {σ : List Nat}, σ ∈ ords n → ∀ a, a ∈ ords n → ∀ b, b ∈ ords n → comp n a σ = comp n b σ → a = b := fun {σ} hσ a ha b hb e => by
    obtain ⟨ρ, r1, r2, r3⟩ := inv_ex hσ
    refine ords_ext ha hb fun i hi => ?_
    have h : pf (comp n a σ) (pf ρ i) = pf (comp n b σ) (pf ρ i) := by rw [e]
    have hl := (ords_pla r1).lt i hi
    rwa [comp_get hl, comp_get hl, r2 i hi] at h
  refine Nat.le_antisymm (cntP_inj (ext_nodup n n) (fun q => comp n q p0) (fun q hq hk => ⟨comp_mem hq hp, by rw [ren_comp h8 hp, hk]⟩) fun a ha b hb => ci hp a ha b hb) (cntP_inj (ext_nodup n n) (fun q => comp n q τ) (fun q hq hk => ⟨comp_mem hq h1, by rw [← hτ q hq, hk]⟩) fun a ha b hb => ci h1 a ha b hb)
/-- Where an element can go. -/
def orb (n : Nat) (B : List Nat) (i k : Nat) : Prop := ∃ p, p ∈ ords n ∧ ren n p B = B ∧ pf p i = k
theorem orb_fibre {i k : Nat} (hi : i < n) (h : orb n B i k) : cntP (ords n) (fun p => ren n p B = B ∧ pf p i = k) = cntP (ords n) (fun p => ren n p B = B ∧ pf p i = i) := by
  have h8 := hB.m8
  obtain ⟨p0, hp, e, ek⟩ := h
  obtain ⟨τ, h1, h2, h3⟩ := inv_ex hp
  have e' : ren n τ B = B := by
    have : ren n τ (ren n p0 B) = B := by rw [← ren_comp h8 hp, ren_id hB fun i hi => by rw [comp_get hi]; exact h3 i hi]
    rwa [e] at this
  refine Nat.le_antisymm (cntP_inj (ext_nodup n n) (comp n τ) (fun q hq hk => ⟨comp_mem h1 hq, ?_, ?_⟩) fun a ha b hb => comp_inj h1 ha hb) (cntP_inj (ext_nodup n n) (comp n p0) (fun q hq hk => ⟨comp_mem hp hq, ?_, ?_⟩) fun a ha b hb => comp_inj hp ha hb)
  · rw [ren_comp h8 hq, hk.1, e']
  · rw [comp_get hi, hk.2, ← ek]; exact h3 i hi
  · rw [ren_comp h8 hq, hk.1, e]
  · rw [comp_get hi, hk.2, ek]
theorem orb_dvd {i : Nat} (hi : i < n) {L : List Nat} (hn : L.Nodup) (hL : ∀ k, k ∈ L ↔ orb n B i k) : aut n B % L.length = 0 := by
  have := fibres (O := ords n) (fun p => pf p i) (cntP (ords n) (fun p => ren n p B = B ∧ pf p i = i)) (fun p => ren n p B = B) L hn fun k hk => orb_fibre hB hi ((hL k).1 hk)
  have e : aut n B = L.length * cntP (ords n) (fun p => ren n p B = B ∧ pf p i = i) := by
    rw [← this]
    exact cntP_congr fun p hp => ⟨fun h => ⟨h, (hL _).2 ⟨p, hp, h, rfl⟩⟩, fun h => h.1⟩
  rw [e]; exact Nat.mul_mod_right _ _
theorem orb_refl (i : Nat) (hi : i < n) : orb n B i i := ⟨lst n id, lst_mem (pla_id n), ren_id hB fun j hj => lst_get hj, lst_get hi⟩
theorem orb_trans {i j k : Nat} (hi : i < n) (h1 : orb n B i j) (h2 : orb n B j k) : orb n B i k := by
  obtain ⟨p, a1, a2, a3⟩ := h1
  obtain ⟨q, b1, b2, b3⟩ := h2
  exact ⟨comp n q p, comp_mem b1 a1, by rw [ren_comp hB.m8 a1, a2, b2], by rw [comp_get hi, a3, b3]⟩
theorem orb_symm {i j : Nat} (hi : i < n) (h1 : orb n B i j) : orb n B j i := by
  obtain ⟨p, a1, a2, a3⟩ := h1
  obtain ⟨τ, h1, h2, h3⟩ := inv_ex a1
  refine ⟨τ, h1, ?_, by rw [← a3]; exact h3 i hi⟩
  have : ren n τ (ren n p B) = B := by rw [← ren_comp hB.m8 a1, ren_id hB fun i hi => by rw [comp_get hi]; exact h3 i hi]
  rwa [a2] at this
end
end Go.SH

set_option linter.unusedSimpArgs false
set_option linter.unusedVariables false
namespace Go.SH
open Go Go.AX

/-- An order that begins so, and makes ranks the same from there on. -/
def Goo (n : Nat) (X Y : Nat → Nat) (P Q : List Nat) : Prop := Q ∈ ords n ∧ (∀ i, i < P.length → pf Q i = pf P i) ∧ ∀ s, 2 ^ P.length ≤ s → s < 2 ^ n → X s = Y (im n n (pf Q) s)
/-- With one element more it goes on so. -/
def Seg (n : Nat) (X Y : Nat → Nat) (P : List Nat) (k : Nat) : Prop := ∀ s, 2 ^ P.length ≤ s → s < 2 ^ (P.length + 1) → X s = Y (im n (P.length + 1) (fun i => (P ++ [k]).getD i 0) s)
section
variable {n : Nat} {X Y : Nat → Nat} {P Q : List Nat} {used : Nat}
theorem app_lenS (P : List Nat) (k : Nat) : (P ++ [k]).length = P.length + 1 := by rw [List.length_append]; rfl
theorem goo_end (h : PreO n P used) (hl : P.length = n) : Goo n X Y P Q ↔ Q = P := by
  have hP : P ∈ ords n := mem_ext.2 ⟨hl, h.nd, fun k hk => by
    obtain ⟨i, i1, rfl⟩ := mem_getD.1 hk
    exact h.lt i i1⟩
  constructor
  · rintro ⟨h1, h2, _⟩
    exact ords_ext h1 hP fun i hi => h2 i (by omega)
  · rintro rfl
    exact ⟨hP, fun _ _ => rfl, fun s s1 s2 => absurd s2 (by rw [hl] at s1; omega)⟩
theorem goo_step (h : PreO n P used) (hl : P.length < n) {k : Nat} (hk : k < n) : (Goo n X Y P Q ∧ pf Q P.length = k) ↔ used.testBit k = false ∧ Seg n X Y P k ∧ Goo n X Y (P ++ [k]) Q := by
  have hpow : 2 ^ (P.length + 1) ≤ 2 ^ n := Nat.pow_le_pow_right (by omega) (by omega)
  have h2 : 2 ^ P.length ≤ 2 ^ (P.length + 1) := Nat.pow_le_pow_right (by omega) (by omega)
  constructor
  · rintro ⟨⟨q1, q2, q3⟩, rfl⟩
    have hp := ords_pla q1
    have hag : ∀ i, i < (P ++ [pf Q P.length]).length → pf Q i = (P ++ [pf Q P.length]).getD i 0 := fun i hi => by
      rw [app_lenS] at hi
      rcases Nat.lt_or_ge i P.length with c | c
      · rw [app_getS c]; exact q2 i c
      · have : i = P.length := by omega
        rw [this, app_lastS]
    refine ⟨?_, fun s s1 s2 => ?_, q1, hag, fun s s1 s2 => q3 s (by rw [app_lenS] at s1; omega) s2⟩
    · cases q : used.testBit (pf Q P.length) with
      | false => rfl
      | true =>
        obtain ⟨i, i1, i2⟩ := mem_getD.1 ((h.ub _).1 q)
        have e := q2 i i1
        have := hp.inj i P.length (by omega) hl (by rw [e]; exact i2)
        omega
    · have := q3 s s1 (by omega)
      rw [im_agree (k := 0) (Q := P ++ [pf Q P.length]) (by rw [app_lenS]; omega) hag (by rw [app_lenS]; exact s2), app_lenS] at this
      exact this
  · rintro ⟨_, k3, q1, q2, q3⟩
    refine ⟨⟨q1, fun i hi => by rw [q2 i (by rw [app_lenS]; omega)]; exact app_getS hi, fun s s1 s2 => ?_⟩, by rw [q2 _ (by rw [app_lenS]; omega)]; exact app_lastS⟩
    rcases Nat.lt_or_ge s (2 ^ (P.length + 1)) with c | c
    · rw [im_agree (k := 0) (Q := P ++ [k]) (by rw [app_lenS]; omega) q2 (by rw [app_lenS]; exact c), app_lenS]
      exact k3 s s1 c
    · exact q3 s (by rw [app_lenS]; exact c) s2
theorem goo_nil (hX : X 0 = Y 0) : Goo n X Y [] Q ↔ Q ∈ ords n ∧ ∀ s, s < 2 ^ n → X s = Y (im n n (pf Q) s) := by
  constructor
  · rintro ⟨h1, _, h3⟩
    refine ⟨h1, fun s hs => ?_⟩
    rcases Nat.eq_zero_or_pos s with c | c
    · subst c; rw [im_zero, hX]
    · exact h3 s c hs
  · rintro ⟨h1, h2⟩
    exact ⟨h1, fun i hi => absurd hi (by simp), fun s _ hs => h2 s hs⟩
end
section
variable {n : Nat} {A C : List Nat}
theorem shl2 {b : Nat} (h : b ≤ 8) : shlOk .i64 2 ((b : Nat) : Int) = true := by
  have : ∀ b : Fin 9, shlOk .i64 2 ((b.val : Nat) : Int) = true := by decide
  exact this ⟨b, by omega⟩
/-- The loop that looks at the sets with the new element. -/
theorem ok_loop (hA : Mat n A) (hC : Mat n C) {P : List Nat} {used k : Nat} (hP : PreO n P used) (hl : P.length < n) (hk' : k < n) (hb : used.testBit k = false) : Gets (loopM (ρ := Bool) (fun ((v1, v2) : Bool × Int) =>
  chk ((shlOk .i64 2 ((P.length : Nat) : Int) = true)) <|
  if (v2 < 2 * ((2 ^ P.length : Nat) : Int) ∧ v1 = true) then
  chk ((0 ≤ v2 ∧ v2 < ((cs (rkL n A)).length : Int))) <|
  (same_moved (cs (P ++ [k])) v2).bind fun y1 =>
  chk ((0 ≤ y1 ∧ y1 < ((cs (rkL n C)).length : Int))) <|
  chk ((-9223372036854775808 ≤ (v2 + 1 : Int) ∧ (v2 + 1 : Int) ≤ 9223372036854775807)) <|
  some (.inl (decide ((cs (rkL n A)).getD v2.toNat 0 = (cs (rkL n C)).getD y1.toNat 0), v2 + 1))
 else
  some (.inr v1)) (true, ((2 ^ P.length : Nat) : Int))) (fun b => b = true ↔ Seg n (rk n A) (rk n C) P k) := by
  have h8 := hA.m8
  have hp8 := pow_le8 h8
  have hpow : 2 ^ (P.length + 1) ≤ 2 ^ n := Nat.pow_le_pow_right (by omega) (by omega)
  have h2p : 2 ^ (P.length + 1) = 2 * 2 ^ P.length := by rw [Nat.pow_succ]; omega
  have h0p : 0 < 2 ^ P.length := Nat.pow_pos (by omega)
  have hP2 := hP.more hk' hb hl
  have elen := app_lenS P k
  refine gFor (2 ^ (P.length + 1)) (fun j (x : Bool × Int) => x.2 = (j : Int) ∧ 2 ^ P.length ≤ j ∧ (x.1 = true ↔ ∀ s, 2 ^ P.length ≤ s → s < j → rk n A s = rk n C (im n (P.length + 1) (fun i => (P ++ [k]).getD i 0) s))) (k0 := 2 ^ P.length) (by omega) ⟨rfl, Nat.le_refl _, fun _ s s1 s2 => absurd s2 (by omega), fun _ => rfl⟩ ?_
  rintro j ⟨ok, _⟩ hj ⟨rfl, j1, j2⟩
  dsimp only at j2 ⊢
  refine gChk (shl2 (by omega)) ?_
  refine gIte (fun h3 => ?_) fun h3 => gSome ?_
  · have hj' : j < 2 ^ (P.length + 1) := by omega
    have hjn : j < 2 ^ n := by omega
    simp only [cs_len]
    refine gChk (by rw [rkL_len]; omega) ?_
    refine gBind (moved_spec h8 (P := P ++ [k]) (by rw [elen]; omega) hP2.lt j) ?_
    rintro _ rfl
    have hil := im_lt n (P ++ [k]).length (fun i => (P ++ [k]).getD i 0) j
    simp only [toNat_nat, cs_get]
    rw [rkL_get n A hjn, rkL_get n C hil]
    refine gChk (by rw [rkL_len]; omega) (gChk (by omega) (gSome ⟨hj', by simp, by omega, ?_⟩))
    show decide _ = true ↔ _
    rw [decide_eq_true_eq, elen]
    constructor
    · intro he s s1 s2
      rcases Nat.lt_succ_iff_lt_or_eq.1 s2 with c | c
      · exact j2.1 h3.2 s s1 c
      · subst c; omega
    · intro hall
      have := hall j j1 (by omega)
      omega
  · show ok = true ↔ Seg n (rk n A) (rk n C) P k
    constructor
    · intro hok s s1 s2
      have : j = 2 ^ (P.length + 1) := by
        rcases Nat.lt_or_ge j (2 ^ (P.length + 1)) with c | c
        · exact absurd ⟨by omega, hok⟩ h3
        · omega
      exact j2.1 hok s s1 (by omega)
    · intro hall
      exact j2.2 fun s s1 s2 => hall s s1 (by omega)
theorem take_app {P : List Nat} (k : Nat) : List.take P.length (cs (P ++ [k])) = cs P := by
  rw [← cs_app]
  have : (cs P).length = P.length := cs_len P
  rw [← this, List.take_append_of_le_length (Nat.le_refl _), List.take_length]
theorem fact8 : ∀ k, k ≤ 8 → fact k ≤ 40320 := fun k hk => by
  have : ∀ k : Fin 9, fact k.val ≤ 40320 := by decide
  exact this ⟨k, by omega⟩
/-- Counted. -/
theorem each1_cnt (hA : Mat n A) (hC : Mat n C) (l1 l3 : List Int) : ∀ (fuel : Nat) (P : List Nat) (used : Nat) (q : Nat), PreO n P used → n < fuel + P.length → q + cntP (ords n) (fun Q => Goo n (rk n A) (rk n C) P Q) ≤ 100000 →
    Gets (same_each_1_v2 fuel (used : Int) (n : Int) l1 (n : Int) l3 (cs (rkL n A)) (cs (rkL n C)) (cs P) (q : Int)) (fun r => r.1 = true ∧ r.2.1 = cs P ∧ r.2.2 = ((q + cntP (ords n) (fun Q => Goo n (rk n A) (rk n C) P Q) : Nat) : Int))
  | 0, P, used, q, hP, hf, _ => absurd hP.len (by omega)
  | fuel + 1, P, used, q, hP, hf, hq => by
    have h8 := hA.m8
    have hp8 := pow_le8 h8
    have hPl := hP.len
    rw [same_each_1_v2.eq_2]
    simp only [cs_len]
    refine gIte (fun e => ?_) fun e => ?_
    · have hl : P.length = n := by omega
      have hPo : P ∈ ords n := ((goo_end (X := rk n A) (Y := rk n C) hP hl).2 rfl).1
      have h1 : cntP (ords n) (fun Q => Goo n (rk n A) (rk n C) P Q) = 1 := cntP_one (ext_nodup n n) hPo fun Q _ => goo_end hP hl
      rw [h1] at hq ⊢
      have e : same_Group_1 (cs P) (q : Int) = some (true, (q : Int) + 1) := by
        unfold same_Group_1
        rw [chk_pos (by omega)]
      exact gBindE e (gSome ⟨rfl, rfl, by simp⟩)
    have hl : P.length < n := by omega
    have hpow : 2 ^ (P.length + 1) ≤ 2 ^ n := Nat.pow_le_pow_right (by omega) (by omega)
    have h0p : 0 < 2 ^ P.length := Nat.pow_pos (by omega)
    have hsp : ∀ k, cntP (ords n) (fun Q => Goo n (rk n A) (rk n C) P Q ∧ pf Q P.length < k + 1) = cntP (ords n) (fun Q => Goo n (rk n A) (rk n C) P Q ∧ pf Q P.length < k) + cntP (ords n) (fun Q => Goo n (rk n A) (rk n C) P Q ∧ pf Q P.length = k) := fun k => cntP_split (fun Q _ => by
      constructor
      · rintro ⟨z1, z2⟩
        rcases Nat.lt_succ_iff_lt_or_eq.1 z2 with c | c
        · exact .inl ⟨z1, c⟩
        · exact .inr ⟨z1, c⟩
      · rintro (⟨z1, z2⟩ | ⟨z1, z2⟩) <;> exact ⟨z1, by omega⟩) fun Q _ z1 z2 => by have := z1.2; have := z2.2; omega
    have hall : cntP (ords n) (fun Q => Goo n (rk n A) (rk n C) P Q ∧ pf Q P.length < n) = cntP (ords n) (fun Q => Goo n (rk n A) (rk n C) P Q) := cntP_congr fun Q hQ => ⟨fun z => z.1, fun z => ⟨z, (ords_pla hQ).lt _ hl⟩⟩
    have hmono : ∀ k, cntP (ords n) (fun Q => Goo n (rk n A) (rk n C) P Q ∧ pf Q P.length < k) ≤ cntP (ords n) (fun Q => Goo n (rk n A) (rk n C) P Q) := fun k => cntP_inj (ext_nodup n n) id (fun a ha z => ⟨ha, z.1⟩) fun _ _ _ _ z => z
    have hz : ∀ k, k < n → ¬ (used.testBit k = false ∧ Seg n (rk n A) (rk n C) P k) → cntP (ords n) (fun Q => Goo n (rk n A) (rk n C) P Q ∧ pf Q P.length = k) = 0 := fun k hk hno => cntP_none fun Q _ z => by
      have := (goo_step hP hl hk).1 z
      exact hno ⟨this.1, this.2.1⟩
    have h1s : ∀ k, k < n → used.testBit k = false → Seg n (rk n A) (rk n C) P k → cntP (ords n) (fun Q => Goo n (rk n A) (rk n C) P Q ∧ pf Q P.length = k) = cntP (ords n) (fun Q => Goo n (rk n A) (rk n C) (P ++ [k]) Q) := fun k hk y1 y2 => cntP_congr fun Q _ => ⟨fun z => ((goo_step hP hl hk).1 z).2.2, fun z => (goo_step hP hl hk).2 ⟨y1, y2, z⟩⟩
    refine gBind (R := fun z => match z with | .inl c => c.1 = cs P ∧ c.2 = ((q + cntP (ords n) (fun Q => Goo n (rk n A) (rk n C) P Q) : Nat) : Int) | .inr r => False)
      (gFor n (fun k (x : List Int × Int × Int) => x.2.2 = (k : Int) ∧ x.1 = cs P ∧ x.2.1 = ((q + cntP (ords n) (fun Q => Goo n (rk n A) (rk n C) P Q ∧ pf Q P.length < k) : Nat) : Int)) (Nat.zero_le _) ⟨rfl, rfl, by rw [cntP_none fun Q _ z => absurd z.2 (by omega)]; simp⟩ ?_) ?_
    · rintro k ⟨_, _, _⟩ hk ⟨rfl, rfl, rfl⟩
      dsimp only
      simp only [toNat_nat, shl_nat', cs_len]
      refine gIte (fun h1 => gChk (by omega) ?_) fun h1 => gSome ⟨rfl, ?_⟩
      rotate_left
      · obtain rfl : k = n := by omega
        rw [hall]
      have hk' : k < n := by omega
      have hnext : ∀ c, cntP (ords n) (fun Q => Goo n (rk n A) (rk n C) P Q ∧ pf Q P.length = k) = c → cntP (ords n) (fun Q => Goo n (rk n A) (rk n C) P Q ∧ pf Q P.length < k + 1) = cntP (ords n) (fun Q => Goo n (rk n A) (rk n C) P Q ∧ pf Q P.length < k) + c := fun c hc => by rw [hsp k, hc]
      refine gIte (fun h2 => gSome ⟨hk', by simp, rfl, ?_⟩) fun h2 => ?_
      · have := hnext 0 (hz k hk' fun z => by rw [(bitX used k).1 h2] at z; cases z.1)
        dsimp only
        rw [this]; rfl
      have hb : used.testBit k = false := bool_ne fun z => h2 ((bitX used k).2 z)
      have hP2 := hP.more hk' hb hl
      have elen := app_lenS P k
      have eapp : cs P ++ [(k : Int)] = cs (P ++ [k]) := cs_app _ _
      rw [eapp]
      refine gChk (by rw [cs_len]; omega) (gChk (by omega) ?_)
      have hok := ok_loop hA hC hP hl hk' hb
      simp only [cs_len] at hok
      refine gBind hok ?_
      intro ok hok
      refine gChk (fun _ => by omega) ?_
      refine gIte (fun h3 => ?_) fun h3 => ?_
      · have hok' : ok = true := by simpa using h3
        have hseg := hok.1 hok'
        have e1 := h1s k hk' hb hseg
        have e2 := hnext _ e1
        have e3 := hmono (k + 1)
        rw [show ior (used : Int) ((2 ^ k : Nat) : Int) = ((used ||| 2 ^ k : Nat) : Int) from or_nat _ _]
        refine gBind (each1_cnt hA hC l1 l3 fuel (P ++ [k]) (used ||| 2 ^ k) _ hP2 (by rw [elen]; omega) (by omega)) ?_
        rintro ⟨b, p, c⟩ ⟨rfl, rfl, rfl⟩
        dsimp only
        refine gChk (by rw [cs_len, elen]; omega) ?_
        rw [take_app]
        refine gIte (fun z => absurd rfl z) fun _ => gSome ⟨hk', by simp, rfl, ?_⟩
        dsimp only
        rw [e2]
        omega
      · have hno : ¬ ok = true := by simpa using h3
        refine gChk (by rw [cs_len, elen]; omega) ?_
        rw [take_app]
        refine gIte (fun z => absurd trivial z) fun _ => gSome ⟨hk', by simp, rfl, ?_⟩
        have := hnext 0 (hz k hk' fun z => hno (hok.2 z.2))
        dsimp only
        rw [this]; rfl
    · rintro (⟨c0, c1⟩ | r) hz
      · obtain ⟨rfl, rfl⟩ := hz
        exact gSome ⟨rfl, rfl, rfl⟩
      · exact absurd hz id
theorem ranks_ok {B : List Nat} (hB : Mat n B) : same_ranks (n : Int) (cs B) = some (cs (rkL n B)) := by unfold same_ranks; rw [axioms_Ranks_ok hB]; rfl
theorem pre0 : PreO n [] 0 := ⟨Nat.zero_le _, fun i hi => absurd hi (by simp), List.Pairwise.nil, Nat.pow_pos (by omega), fun x => by simp⟩
/-- The group's number. -/
theorem Group_spec (hA : Mat n A) : same_Group (n : Int) (cs A) = some (((aut n A : Nat) : Int), 0) := by
  refine Gets.eq ?_
  have h8 := hA.m8
  have e : cntP (ords n) (fun Q => Goo n (rk n A) (rk n A) [] Q) = aut n A := cntP_congr fun Q hQ => by
    rw [goo_nil rfl, tr_iff hA hA hQ]
    exact ⟨fun z => z.2, fun z => ⟨hQ, z⟩⟩
  have hle : aut n A ≤ 40320 := Nat.le_trans cntP_le (by rw [ext_all]; exact fact8 n h8)
  unfold same_Group
  refine gBindE hA.check (gIte (fun z => absurd rfl z) fun _ => ?_)
  refine gBind (R := fun y => y = ((aut n A : Nat) : Int)) ?_ fun y hy => gSome (by rw [hy])
  unfold same_each_v2
  refine gBindE (ranks_ok hA) (gBindE (ranks_ok hA) ?_)
  have := each1_cnt hA hA (cs A) (cs A) 12 [] 0 0 pre0 (by simp only [List.length_nil]; omega) (by rw [e]; omega)
  refine gBind this ?_
  rintro ⟨b, p, c⟩ ⟨rfl, rfl, rfl⟩
  refine gSome ?_
  dsimp only
  rw [e, Nat.zero_add]
end
end Go.SH

set_option linter.unusedSimpArgs false
set_option linter.unusedVariables false
namespace Go.SH
open Go Go.AX

section
variable {n : Nat} {A C : List Nat}
/-- What is found is such an order. -/
theorem each1_out (hA : Mat n A) (hC : Mat n C) (l1 l3 : List Int) : ∀ (fuel : Nat) (P : List Nat) (used : Nat) (q1 : List Int) (q2 : Bool), PreO n P used → n < fuel + P.length →
    Gets (same_each_1 fuel (used : Int) (n : Int) l1 (n : Int) l3 (cs (rkL n A)) (cs (rkL n C)) (cs P) q1 q2) (fun r => r.2.1 = cs P ∧ ((r.1 = false ∧ ∃ Q, r.2.2.1 = cs Q ∧ Goo n (rk n A) (rk n C) P Q) ∨ (r.1 = true ∧ r.2.2.1 = q1 ∧ r.2.2.2 = q2)))
  | 0, P, used, q1, q2, hP, hf => absurd hP.len (by omega)
  | fuel + 1, P, used, q1, q2, hP, hf => by
    have h8 := hA.m8
    have hp8 := pow_le8 h8
    have hPl := hP.len
    rw [same_each_1.eq_2]
    simp only [cs_len]
    refine gIte (fun q => ?_) fun q => ?_
    · have e : same_Isomorphic_1 (cs P) q1 q2 = some (false, cs P, true) := by
        unfold same_Isomorphic_1
        rw [chk_pos (by rw [cs_len]; omega)]
      exact gBindE e (gSome ⟨rfl, .inl ⟨rfl, P, rfl, (goo_end hP (by omega)).2 rfl⟩⟩)
    have hl : P.length < n := by omega
    have hpow : 2 ^ (P.length + 1) ≤ 2 ^ n := Nat.pow_le_pow_right (by omega) (by omega)
    have h0p : 0 < 2 ^ P.length := Nat.pow_pos (by omega)
    refine gBind (R := fun z => match z with | .inl c => c.1 = cs P ∧ c.2.1 = q1 ∧ c.2.2 = q2 | .inr r => r.2.1 = cs P ∧ r.1 = false ∧ ∃ Q, r.2.2.1 = cs Q ∧ Goo n (rk n A) (rk n C) P Q)
      (gFor n (fun k (x : List Int × List Int × Bool × Int) => x.2.2.2 = (k : Int) ∧ x.1 = cs P ∧ x.2.1 = q1 ∧ x.2.2.1 = q2) (Nat.zero_le _) ⟨rfl, rfl, rfl, rfl⟩ ?_) ?_
    · rintro k ⟨o0, o1, o2, _⟩ hk ⟨rfl, e0, e1, e2⟩
      dsimp only at e0 e1 e2 ⊢
      subst e0
      have e1' := e1.symm; subst e1'
      have e2' := e2.symm; subst e2'
      simp only [toNat_nat, shl_nat', cs_len]
      refine gIte (fun h1 => gChk (by omega) ?_) fun h1 => gSome ⟨rfl, rfl, rfl⟩
      have hk' : k < n := by omega
      refine gIte (fun h2 => gSome ⟨hk', by simp, rfl, rfl, rfl⟩) fun h2 => ?_
      have hb : used.testBit k = false := bool_ne fun z => h2 ((bitX used k).2 z)
      have hP2 := hP.more hk' hb hl
      have elen := app_lenS P k
      have eapp : cs P ++ [(k : Int)] = cs (P ++ [k]) := cs_app _ _
      rw [eapp]
      refine gChk (by rw [cs_len]; omega) (gChk (by omega) ?_)
      have hok := ok_loop hA hC hP hl hk' hb
      simp only [cs_len] at hok
      refine gBind hok ?_
      intro ok hok
      refine gChk (fun _ => by omega) ?_
      refine gIte (fun h3 => ?_) fun h3 => ?_
      · have hok' : ok = true := by simpa using h3
        have hseg := hok.1 hok'
        rw [show ior (used : Int) ((2 ^ k : Nat) : Int) = ((used ||| 2 ^ k : Nat) : Int) from or_nat _ _]
        refine gBind (each1_out hA hC l1 l3 fuel (P ++ [k]) (used ||| 2 ^ k) q1 q2 hP2 (by rw [elen]; omega)) ?_
        rintro ⟨b, p, out, found⟩ ⟨hp, hr⟩
        dsimp only at hp hr ⊢
        subst hp
        refine gChk (by rw [cs_len, elen]; omega) ?_
        rw [take_app]
        rcases hr with ⟨rfl, Q, rfl, hg⟩ | ⟨rfl, rfl, rfl⟩
        · exact gIte (fun _ => gSome ⟨rfl, rfl, Q, rfl, ((goo_step hP hl hk').2 ⟨hb, hseg, hg⟩).1⟩) fun q => absurd (by simp) q
        · exact gIte (fun q => absurd rfl q) fun _ => gSome ⟨hk', by simp, rfl, rfl, rfl⟩
      · have hno : ¬ ok = true := by simpa using h3
        refine gChk (by rw [cs_len, elen]; omega) ?_
        rw [take_app]
        exact gIte (fun q => absurd trivial q) fun _ => gSome ⟨hk', by simp, rfl, rfl, rfl⟩
    · rintro (⟨c0, c1, c2⟩ | r) hz
      · obtain ⟨z1, z2, z3⟩ := hz
        exact gSome ⟨z1, .inr ⟨rfl, z2, z3⟩⟩
      · exact gSome ⟨hz.1, .inl hz.2⟩
/-- The answer of Isomorphic: an order that makes the one of the other. -/
theorem Isomorphic_out (hA : Mat n A) (hC : Mat n C) : Gets (same_Isomorphic (n : Int) (cs A) (n : Int) (cs C)) (fun r => (r.2 = 0 ∧ ∃ Q, r.1 = cs Q ∧ Q ∈ ords n ∧ ren n Q A = C) ∨ (r.2 = 5 ∧ ¬ ∃ Q, Q ∈ ords n ∧ ren n Q A = C)) := by
  have h8 := hA.m8
  have h1 := Isomorphic_spec hA hC
  have h2 : Gets (same_Isomorphic (n : Int) (cs A) (n : Int) (cs C)) (fun r => r.2 = 0 → ∃ Q, r.1 = cs Q ∧ Q ∈ ords n ∧ ren n Q A = C) := by
    unfold same_Isomorphic
    refine gBindE hA.check (gBindE hC.check (gIte (fun q => absurd rfl q) fun _ => gIte (fun q => absurd rfl q) fun _ => ?_))
    refine gJoin (R := fun v => v.2 = true → ∃ Q, v.1 = cs Q ∧ Q ∈ ords n ∧ ren n Q A = C) ?_ fun j hj => ?_
    · rintro ⟨o, f⟩ h
      exact gIte (fun q => gSome fun z => absurd z (by decide)) fun q => gSome fun _ => h (by simpa using q)
    · refine gIte (fun q => ?_) fun q => hj _ fun z => absurd z (by simp)
      refine gBind (R := fun y => y.2 = true → ∃ Q, y.1 = cs Q ∧ Q ∈ ords n ∧ ren n Q A = C) ?_ ?_
      · unfold same_each
        refine gBindE (ranks_ok hA) (gBindE (ranks_ok hC) ?_)
        refine gBind (each1_out hA hC (cs A) (cs C) 12 [] 0 [] false pre0 (by simp only [List.length_nil]; omega)) ?_
        rintro ⟨b, p, out, found⟩ ⟨_, hr⟩
        dsimp only at hr ⊢
        rcases hr with ⟨_, Q, rfl, hg⟩ | ⟨_, _, rfl⟩
        · have e0 : rk n A 0 = rk n C 0 := by rw [hA.rk_zero, hC.rk_zero]
          have := (goo_nil e0).1 hg
          exact gSome fun _ => ⟨Q, rfl, this.1, (tr_iff hA hC this.1).1 this.2⟩
        · exact gSome fun z => absurd z (by simp)
      · rintro ⟨o, f⟩ h
        exact hj _ h
  refine (h1.and h2).mono ?_
  rintro r ⟨⟨a1, _, _⟩ | ⟨a1, a2⟩, b⟩
  · exact .inl ⟨a1, b a1⟩
  · refine .inr ⟨a1, ?_⟩
    rintro ⟨Q, q1, rfl⟩
    have hi : Iso n (rk n A) (rk n (ren n Q A)) := ⟨pf Q, ords_pla q1, (tr_iff hA hC q1).2 rfl⟩
    refine a2 ⟨rfl, Nat.le_antisymm (hi.len hA hC) (hi.symm.len hC hA), hi⟩
/-! ### where elements go -/
theorem Orbits1 {T Q : List Nat} (h8 : n ≤ 8) (hT : T.length = n) (hQ : Q ∈ ords n) : Gets (same_Orbits_1 (cs Q) (cs T)) (fun r => r.1 = true ∧ ∃ T', r.2 = cs T' ∧ T'.length = n ∧ ∀ i, i < n → T'.getD i 0 = T.getD i 0 ||| 2 ^ pf Q i) := by
  have hp := ords_pla hQ
  have hl : Q.length = n := (mem_ext.1 hQ).1
  unfold same_Orbits_1
  refine gBind (R := fun r => ∃ T', r = cs T' ∧ T'.length = n ∧ ∀ i, i < n → T'.getD i 0 = T.getD i 0 ||| 2 ^ pf Q i) (gFor n (fun k (x : List Int × Int) => x.2 = (k : Int) ∧ ∃ T', x.1 = cs T' ∧ T'.length = n ∧ ∀ i, i < n → T'.getD i 0 = if i < k then T.getD i 0 ||| 2 ^ pf Q i else T.getD i 0) (Nat.zero_le _) ⟨rfl, T, rfl, hT, fun i _ => by simp⟩ ?_) fun r hr => gSome ⟨rfl, hr⟩
  rintro k ⟨_, _⟩ hk ⟨rfl, T', rfl, t1, t2⟩
  dsimp only
  simp only [cs_len, cs_get, toNat_nat, hl, t1]
  refine gIte (fun h1 => gChk (by omega) ?_) fun h1 => gSome ⟨T', rfl, t1, fun i hi => by rw [t2 i hi, if_pos (by omega)]⟩
  have hk' : k < n := by omega
  have hq := hp.lt k hk'
  refine gChk ⟨by omega, by have : (Q.getD k 0 : Nat) < n := hq
                            omega⟩ (gSome ⟨hk', by simp, T'.set k (T'.getD k 0 ||| 2 ^ pf Q k), ?_, by rw [List.length_set, t1], fun i hi => ?_⟩)
  · dsimp only
    rw [shl_nat', or_nat, cs, cs, List.map_set]
  · have : (T'.set k (T'.getD k 0 ||| 2 ^ pf Q k)).getD i 0 = if i = k then T'.getD k 0 ||| 2 ^ pf Q k else T'.getD i 0 := by
      rw [List.getD_eq_getElem?_getD, List.getElem?_set]
      by_cases e : k = i
      · subst e; simp [t1, hk']
      · rw [if_neg e, if_neg (fun z => e z.symm), ← List.getD_eq_getElem?_getD]
    rw [this]
    by_cases e : i = k
    · subst e
      rw [if_pos rfl, t2 i hi, if_neg (by omega), if_pos (by omega)]
    · rw [if_neg e, t2 i hi]
      by_cases c : i < k
      · rw [if_pos c, if_pos (by omega)]
      · rw [if_neg c, if_neg (by omega)]
/-- What has come to it. -/
def Came (n : Nat) (T T' : List Nat) (p : List Nat → Prop) : Prop := T'.length = n ∧ ∀ i, i < n → ∀ x, (T'.getD i 0).testBit x = true ↔ (T.getD i 0).testBit x = true ∨ ∃ Q, p Q ∧ pf Q i = x
theorem Came.len {T T' : List Nat} {p : List Nat → Prop} (h : Came n T T' p) : T'.length = n := h.1
theorem Came.none {T : List Nat} {p : List Nat → Prop} (hT : T.length = n) (h : ∀ Q, ¬ p Q) : Came n T T p := ⟨hT, fun i _ x => ⟨.inl, fun z => z.elim id fun ⟨Q, q, _⟩ => absurd q (h Q)⟩⟩
theorem Came.congr {T T' : List Nat} {p q : List Nat → Prop} (h : Came n T T' p) (e : ∀ Q, p Q ↔ q Q) : Came n T T' q := ⟨h.1, fun i hi x => by rw [h.2 i hi x]; simp only [e]⟩
theorem Came.trans {T T' T'' : List Nat} {p q r : List Nat → Prop} (h : Came n T T' p) (k : Came n T' T'' q) (e : ∀ Q, r Q ↔ p Q ∨ q Q) : Came n T T'' r := ⟨k.1, fun i hi x => by
  rw [k.2 i hi x, h.2 i hi x]
  constructor
  · rintro ((z | ⟨Q, q1, q2⟩) | ⟨Q, q1, q2⟩)
    · exact .inl z
    · exact .inr ⟨Q, (e Q).2 (.inl q1), q2⟩
    · exact .inr ⟨Q, (e Q).2 (.inr q1), q2⟩
  · rintro (z | ⟨Q, q1, q2⟩)
    · exact .inl (.inl z)
    · rcases (e Q).1 q1 with c | c
      · exact .inl (.inr ⟨Q, c, q2⟩)
      · exact .inr ⟨Q, c, q2⟩⟩
theorem each1_orb (hA : Mat n A) (hC : Mat n C) (l1 l3 : List Int) : ∀ (fuel : Nat) (P : List Nat) (used : Nat) (T : List Nat), PreO n P used → n < fuel + P.length → T.length = n →
    Gets (same_each_1_v3 fuel (used : Int) (n : Int) l1 (n : Int) l3 (cs (rkL n A)) (cs (rkL n C)) (cs P) (cs T)) (fun r => r.1 = true ∧ r.2.1 = cs P ∧ ∃ T', r.2.2 = cs T' ∧ Came n T T' (fun Q => Goo n (rk n A) (rk n C) P Q))
  | 0, P, used, q, hP, hf, _ => absurd hP.len (by omega)
  | fuel + 1, P, used, T, hP, hf, hT => by
    have h8 := hA.m8
    have hp8 := pow_le8 h8
    have hPl := hP.len
    rw [same_each_1_v3.eq_2]
    simp only [cs_len]
    refine gIte (fun e => ?_) fun e => ?_
    · have hl : P.length = n := by omega
      have hPo : P ∈ ords n := ((goo_end (X := rk n A) (Y := rk n C) hP hl).2 rfl).1
      refine gBind (Orbits1 h8 hT hPo) ?_
      rintro ⟨b, _⟩ ⟨rfl, T', rfl, t1, t2⟩
      refine gSome ⟨rfl, rfl, T', rfl, t1, fun i hi x => ?_⟩
      rw [t2 i hi, Nat.testBit_or, Bool.or_eq_true, testBit_pow, decide_eq_true_eq]
      refine or_congr Iff.rfl ⟨fun e => ⟨P, (goo_end hP hl).2 rfl, e⟩, fun ⟨Q, q1, q2⟩ => ?_⟩
      rw [(goo_end hP hl).1 q1] at q2; exact q2
    have hl : P.length < n := by omega
    have hpow : 2 ^ (P.length + 1) ≤ 2 ^ n := Nat.pow_le_pow_right (by omega) (by omega)
    have h0p : 0 < 2 ^ P.length := Nat.pow_pos (by omega)
    refine gBind (R := fun z => match z with | .inl c => c.1 = cs P ∧ ∃ T', c.2 = cs T' ∧ Came n T T' (fun Q => Goo n (rk n A) (rk n C) P Q) | .inr r => False)
      (gFor n (fun k (x : List Int × List Int × Int) => x.2.2 = (k : Int) ∧ x.1 = cs P ∧ ∃ T', x.2.1 = cs T' ∧ Came n T T' (fun Q => Goo n (rk n A) (rk n C) P Q ∧ pf Q P.length < k)) (Nat.zero_le _) ⟨rfl, rfl, T, rfl, Came.none hT fun Q z => by have := z.2; omega⟩ ?_) ?_
    · rintro k ⟨_, _, _⟩ hk ⟨rfl, rfl, T', rfl, hI⟩
      dsimp only
      simp only [toNat_nat, shl_nat', cs_len]
      refine gIte (fun h1 => gChk (by omega) ?_) fun h1 => gSome ⟨rfl, T', rfl, hI.congr fun Q => ⟨fun z => z.1, fun z => ⟨z, ?_⟩⟩⟩
      rotate_left
      · have := (ords_pla z.1).lt _ hl; omega
      have hk' : k < n := by omega
      have hnext : ∀ {T''}, Came n T' T'' (fun Q => Goo n (rk n A) (rk n C) P Q ∧ pf Q P.length = k) → Came n T T'' (fun Q => Goo n (rk n A) (rk n C) P Q ∧ pf Q P.length < k + 1) := fun h => hI.trans h fun Q => by
        constructor
        · rintro ⟨z1, z2⟩
          rcases Nat.lt_succ_iff_lt_or_eq.1 z2 with c | c
          · exact .inl ⟨z1, c⟩
          · exact .inr ⟨z1, c⟩
        · rintro (⟨z1, z2⟩ | ⟨z1, z2⟩) <;> exact ⟨z1, by omega⟩
      have hz : ¬ (used.testBit k = false ∧ Seg n (rk n A) (rk n C) P k) → Came n T' T' (fun Q => Goo n (rk n A) (rk n C) P Q ∧ pf Q P.length = k) := fun hno => Came.none hI.len fun Q z => by
        have := (goo_step hP hl hk').1 z
        exact hno ⟨this.1, this.2.1⟩
      refine gIte (fun h2 => gSome ⟨hk', by simp, rfl, T', rfl, hnext (hz fun z => ?_)⟩) fun h2 => ?_
      · rw [(bitX used k).1 h2] at z; cases z.1
      have hb : used.testBit k = false := bool_ne fun z => h2 ((bitX used k).2 z)
      have hP2 := hP.more hk' hb hl
      have elen := app_lenS P k
      have eapp : cs P ++ [(k : Int)] = cs (P ++ [k]) := cs_app _ _
      rw [eapp]
      refine gChk (by rw [cs_len]; omega) (gChk (by omega) ?_)
      have hok := ok_loop hA hC hP hl hk' hb
      simp only [cs_len] at hok
      refine gBind hok ?_
      intro ok hok
      refine gChk (fun _ => by omega) ?_
      refine gIte (fun h3 => ?_) fun h3 => ?_
      · have hok' : ok = true := by simpa using h3
        have hseg := hok.1 hok'
        rw [show ior (used : Int) ((2 ^ k : Nat) : Int) = ((used ||| 2 ^ k : Nat) : Int) from or_nat _ _]
        refine gBind (each1_orb hA hC l1 l3 fuel (P ++ [k]) (used ||| 2 ^ k) T' hP2 (by rw [elen]; omega) hI.len) ?_
        rintro ⟨b, p, c⟩ ⟨rfl, rfl, T'', rfl, hc⟩
        dsimp only
        refine gChk (by rw [cs_len, elen]; omega) ?_
        rw [take_app]
        exact gIte (fun z => absurd rfl z) fun _ => gSome ⟨hk', by simp, rfl, T'', rfl, hnext (hc.congr fun Q => ⟨fun z => (goo_step hP hl hk').2 ⟨hb, hseg, z⟩, fun z => ((goo_step hP hl hk').1 z).2.2⟩)⟩
      · have hno : ¬ ok = true := by simpa using h3
        refine gChk (by rw [cs_len, elen]; omega) ?_
        rw [take_app]
        exact gIte (fun z => absurd trivial z) fun _ => gSome ⟨hk', by simp, rfl, T', rfl, hnext (hz fun z => hno (hok.2 z.2))⟩
    · rintro (⟨c0, c1⟩ | r) hz
      · obtain ⟨rfl, T', rfl, h⟩ := hz
        exact gSome ⟨rfl, rfl, T', rfl, h⟩
      · exact absurd hz id
end
end Go.SH

set_option linter.unusedSimpArgs false
set_option linter.unusedVariables false
namespace Go.SH
open Go Go.AX

theorem slices_Index_spec (l : List Int) (t : Int) (hl : l.length < 2 ^ 60) : Gets (slices_Index_int_int l t) (fun r => (∃ k : Nat, r = k ∧ k < l.length ∧ l.getD k 0 = t ∧ ∀ j, j < k → l.getD j 0 ≠ t) ∨ (r = -1 ∧ t ∉ l)) := by
  unfold slices_Index_int_int
  refine gBind (R := fun z => match z with | .inl _ => ∀ k, k < l.length → l.getD k 0 ≠ t | .inr r => ∃ k : Nat, r = (k : Int) ∧ k < l.length ∧ l.getD k 0 = t ∧ ∀ j, j < k → l.getD j 0 ≠ t)
    (gFor l.length (fun k v => v = (k : Int) ∧ ∀ j, j < k → l.getD j 0 ≠ t) (Nat.zero_le _) ⟨rfl, none_all⟩ ?_) ?_
  · rintro k _ hk ⟨rfl, hb⟩
    refine gIte (fun h1 => gChk (by omega) ?_) fun h1 => gSome fun j hj => hb j (by omega)
    simp only [toNat_nat]
    exact gIte (fun h2 => gSome ⟨k, rfl, by omega, h2.symm, hb⟩) fun h2 => gSome ⟨by omega, by simp, step_all hb fun e => h2 e.symm⟩
  · rintro (u | rr) hz
    · refine gSome (.inr ⟨rfl, fun h => ?_⟩)
      obtain ⟨j, hj, rfl⟩ := List.getElem_of_mem h
      exact hz j hj (by rw [List.getD_eq_getElem?_getD, List.getElem?_eq_getElem hj]; rfl)
    · exact gSome (.inl hz)
theorem slices_Contains_spec (l : List Int) (t : Int) (hl : l.length < 2 ^ 60) : slices_Contains_int_int l t = some (decide (t ∈ l)) := by
  refine Gets.eq ?_
  unfold slices_Contains_int_int
  refine gBind (slices_Index_spec l t hl) fun r hr => gSome ?_
  rcases hr with ⟨k, rfl, h1, h2, _⟩ | ⟨rfl, h⟩
  · have : t ∈ l := by
      rw [← h2, List.getD_eq_getElem?_getD, List.getElem?_eq_getElem h1]; exact List.getElem_mem h1
    simp [this]
  · simp [h]

theorem Contains_spec (l : List Int) (t : Int) (hl : l.length < 2 ^ 60) : Gets (slices_Contains_int_int l t) (fun r => r = true ↔ t ∈ l) := by
  rw [slices_Contains_spec l t hl]
  exact gSome (by simp)
/-! ### the order of lists -/
/-- Where they first are apart the first one has less. -/
def LX (a b : List Nat) : Prop := ∃ i, i < a.length ∧ (∀ j, j < i → a.getD j 0 = b.getD j 0) ∧ a.getD i 0 < b.getD i 0
section
variable {a b c : List Nat}
theorem LX.anti (h : a.length = b.length) (h1 : ¬ LX a b) (h2 : ¬ LX b a) : a = b := by
  refine list_extN h fun i => ?_
  induction i using Nat.strongRecOn with
  | ind i ih =>
    intro hi
    have he : ∀ j, j < i → a.getD j 0 = b.getD j 0 := fun j hj => ih j hj (by omega)
    rcases Nat.lt_trichotomy (a.getD i 0) (b.getD i 0) with c | c | c
    · exact absurd ⟨i, hi, he, c⟩ h1
    · exact c
    · exact absurd ⟨i, by omega, fun j hj => (he j hj).symm, c⟩ h2
theorem LX.le (h : a.length = b.length) (h' : c.length = b.length) (h1 : ¬ LX c b) (h2 : LX a b) : ¬ LX c a := by
  rintro ⟨i, i1, i2, i3⟩
  obtain ⟨k, k1, k2, k3⟩ := h2
  rcases Nat.lt_or_ge i k with q | q
  · exact h1 ⟨i, i1, fun j hj => by rw [i2 j hj, k2 j (by omega)], by rw [← k2 i q]; exact i3⟩
  · refine h1 ⟨k, by omega, fun j hj => by rw [i2 j (by omega), k2 j hj], ?_⟩
    rcases Nat.eq_or_lt_of_le q with e | e
    · subst e; omega
    · rw [i2 k e]; exact k3
theorem LX.irr : ¬ LX a a := fun ⟨i, _, _, h⟩ => by omega
theorem LX.trans_le (h : a.length = b.length) (h' : c.length = b.length) (h1 : ¬ LX b a) (h2 : ¬ LX c b) : ¬ LX c a := by
  rcases Classical.em (LX a b) with q | q
  · exact LX.le h h' h2 q
  · have := LX.anti h q h1
    subst this; exact h2
theorem Compare_spec (h : a.length = b.length) (hl : a.length ≤ 1000) : Gets (slices_Compare_int_int (cs a) (cs b)) (fun r => r < 0 ↔ LX a b) := by
  unfold slices_Compare_int_int
  simp only [cs_len, h]
  refine gBind (R := fun z => match z with | .inl _ => ¬ LX a b | .inr r => (r < 0 ↔ LX a b)) (gFor b.length (fun k (x : Int) => x = (k : Int) ∧ ∀ j, j < k → a.getD j 0 = b.getD j 0) (Nat.zero_le _) ⟨rfl, none_all⟩ ?_) ?_
  · rintro k _ hk ⟨rfl, hI⟩
    simp only [toNat_nat, cs_get]
    refine gIte (fun h1 => gChk (by omega) (gIte (fun q => absurd q (by omega)) fun _ => gChk (by omega) ?_)) fun h1 => gSome ?_
    · have hk' : k < b.length := by omega
      unfold cmp_Compare_int
      rw [cisNaN_eq, cisNaN_eq, Option.bind_some, Option.bind_some, if_neg (by simp), if_neg (by simp)]
      have hlt : a.getD k 0 < b.getD k 0 → LX a b := fun q => ⟨k, by omega, hI, q⟩
      have hgt : b.getD k 0 < a.getD k 0 → ¬ LX a b := fun q => by
        rintro ⟨i, i1, i2, i3⟩
        rcases Nat.lt_trichotomy i k with c | c | c
        · rw [hI i c] at i3; omega
        · subst c; omega
        · rw [i2 k c] at q; omega
      by_cases c1 : ((a.getD k 0 : Nat) : Int) < ((b.getD k 0 : Nat) : Int)
      · rw [if_pos c1, Option.bind_some, if_pos (by decide)]
        exact gSome ⟨fun _ => hlt (by omega), fun _ => by decide⟩
      · rw [if_neg c1]
        by_cases c2 : ((b.getD k 0 : Nat) : Int) < ((a.getD k 0 : Nat) : Int)
        · rw [if_pos c2, Option.bind_some, if_pos (by decide)]
          exact gSome ⟨fun z => absurd z (by decide), fun z => absurd z (hgt (by omega))⟩
        · rw [if_neg c2, Option.bind_some, if_neg (by decide)]
          exact gSome ⟨hk', by simp, step_all hI (by omega)⟩
    · rintro ⟨i, i1, i2, i3⟩
      rw [hI i (by omega)] at i3; omega
  · rintro (u | r) hz
    · rw [if_neg (by omega)]
      exact gSome ⟨fun z => absurd z (by decide), fun z => absurd z hz⟩
    · exact gSome hz
end
section
variable {n : Nat} {B : List Nat}
theorem ren_len {p : List Nat} (hB : Mat n B) (hp : p ∈ ords n) : (ren n p B).length = B.length := by
  have hi : Iso n (rk n B) (rk n (ren n p B)) := ⟨pf p, ords_pla hp, (tr_iff hB (ren_mat hB hp).1 hp).2 rfl⟩
  exact Nat.le_antisymm (hi.symm.len (ren_mat hB hp).1 hB) (hi.len hB (ren_mat hB hp).1)
theorem renamed_spec {p : List Nat} (hB : Mat n B) (hp : p ∈ ords n) : same_renamed (n : Int) (cs B) (cs p) = some (cs (ren n p B)) := by
  have h8 := hB.m8
  have hlen := hB.toFam.len
  obtain ⟨p1, p2, p3⟩ := mem_ext.1 hp
  refine Gets.eq ?_
  unfold same_renamed
  refine gBind (R := fun r => r = cs (B.map fun b => im n n (pf p) b)) (gFor B.length (fun k (x : List Int × Int) => x.2 = (k : Int) ∧ x.1 = cs ((B.take k).map fun b => im n n (pf p) b)) (Nat.zero_le _) ⟨rfl, rfl⟩ ?_) ?_
  · rintro k ⟨_, _⟩ hk ⟨rfl, rfl⟩
    dsimp only
    simp only [cs_len, toNat_nat, cs_get]
    refine gIte (fun h1 => gChk (by omega) ?_) fun h1 => gSome (by rw [List.take_of_length_le (by omega)])
    have hk' : k < B.length := by omega
    refine gBind (moved_spec h8 (P := p) (by omega) (fun i hi => p3 _ (getD_mem hi)) (B.getD k 0)) ?_
    rintro _ rfl
    rw [p1]
    have e : cs ((B.take k).map fun b => im n n (pf p) b) ++ [((im n n (fun i => p.getD i 0) (B.getD k 0) : Nat) : Int)] = cs ((B.take (k + 1)).map fun b => im n n (pf p) b) := by
      rw [cs_app, List.take_add_one, List.map_append, List.getD_eq_getElem?_getD, List.getElem?_eq_getElem hk']; rfl
    rw [e]
    refine gChk (by rw [cs_len, List.length_map, List.length_take]; omega) (gSome ⟨hk', by simp, rfl⟩)
  · rintro _ rfl
    refine gChk (by rw [cs_len, List.length_map]; omega) (gSome ?_)
    refine sortF (m := n) (nodup_map_inj hB.toFam.nodup fun a ha b hb e => (ords_pla hp).im_inj (hB.lt a ha) (hB.lt b hb) e) (ren_fam h8 B) fun s => ?_
    rw [mem_ren, List.mem_map]
    exact ⟨fun ⟨b, b1, b2⟩ => ⟨b, b1, b2.symm⟩, fun ⟨b, b1, b2⟩ => ⟨b, b1, b2.symm⟩⟩
/-- What Rename tells. -/
theorem order_spec (p : List Int) (hp : p.length ≤ 9223372036854775807) {n : Nat} (h8 : n ≤ 8) : Gets (same_order p (n : Int)) (fun r => r = true ↔ ∃ Q, p = cs Q ∧ Q ∈ ords n) := by
  unfold same_order
  refine gIte (fun h => gSome ?_) fun h => ?_
  · refine ⟨fun z => by simp at z, ?_⟩
    rintro ⟨Q, rfl, hQ⟩
    rw [cs_len, (mem_ext.1 hQ).1] at h
    exact absurd rfl h
  have hl : p.length = n := by omega
  refine gBind (R := fun z => match z with | .inl _ => ∃ Q, p = cs Q ∧ Q ∈ ords n | .inr r => r = false ∧ ¬ ∃ Q, p = cs Q ∧ Q ∈ ords n) (gFor n (fun k (x : Int) => x = (k : Int) ∧ ∃ Q, p.take k = cs Q ∧ Q.length = k ∧ Q.Nodup ∧ ∀ a, a ∈ Q → a < n) (Nat.zero_le _) ⟨rfl, [], rfl, rfl, List.nodup_nil, fun a ha => by simp at ha⟩ ?_) ?_
  · rintro k _ hk ⟨rfl, Q, q1, q2, q3, q4⟩
    simp only [toNat_nat]
    refine gIte (fun h1 => gChk (by omega) (gChk (fun _ => by omega) ?_)) fun h1 => gSome ?_
    rotate_left
    · obtain rfl : k = n := by omega
      rw [List.take_of_length_le (by omega)] at q1
      exact ⟨Q, q1, mem_ext.2 ⟨q2, q3, q4⟩⟩
    have hk' : k < n := by omega
    have ht : (p.take k).length = k := by rw [List.length_take]; omega
    have hmem : ∀ {Q'}, p = cs Q' → Q' ∈ ords n → Q'.take k = Q ∧ p.getD k 0 = ((Q'.getD k 0 : Nat) : Int) := fun {Q'} e hQ => by
      subst e
      refine ⟨cs_inj ?_, cs_get _ _⟩
      rw [← q1, cs, cs, List.map_take]
    have hbad : ((p.getD k 0 < 0 ∨ (n : Int) ≤ p.getD k 0) ∨ p.getD k 0 ∈ p.take k) → ¬ ∃ Q', p = cs Q' ∧ Q' ∈ ords n := by
      rintro hb ⟨Q', e, hQ⟩
      obtain ⟨m1, m2⟩ := hmem e hQ
      obtain ⟨o1, o2, o3⟩ := mem_ext.1 hQ
      have hg := o3 _ (getD_mem (show k < Q'.length by omega))
      rcases hb with hb | hb
      · omega
      · rw [q1, m2, cs_mem, ← m1] at hb
        obtain ⟨i, i1, i2⟩ := mem_getD.1 hb
        rw [List.length_take] at i1
        have e2 : (Q'.take k).getD i 0 = Q'.getD i 0 := by
          rw [List.getD_eq_getElem?_getD, List.getD_eq_getElem?_getD, List.getElem?_take, if_pos (by omega)]
        rw [e2] at i2
        have := nodup_getD o2 (by omega) (by omega) i2
        omega
    refine gBind (R := fun y => ¬ (p.getD k 0 < 0 ∨ (n : Int) ≤ p.getD k 0) → (y = true ↔ p.getD k 0 ∈ p.take k)) (gIte (fun q => ?_) fun q => gSome fun z => absurd z q) fun y hy => ?_
    · exact (Contains_spec (p.take k) (p.getD k 0) (by rw [ht]; omega)).mono fun r hr _ => hr
    · refine gIte (fun q => gSome ⟨rfl, hbad ?_⟩) fun q => gSome ⟨hk', by simp, ?_⟩
      · rcases q with q | q
        · exact .inl q
        · rcases Classical.em (p.getD k 0 < 0 ∨ (n : Int) ≤ p.getD k 0) with c | c
          · exact .inl c
          · exact .inr ((hy c).1 q)
      · have c : ¬ (p.getD k 0 < 0 ∨ (n : Int) ≤ p.getD k 0) := fun z => q (.inl z)
        have c2 : p.getD k 0 ∉ p.take k := fun z => q (.inr ((hy c).2 z))
        obtain ⟨v, hv⟩ : ∃ v : Nat, p.getD k 0 = (v : Int) := ⟨(p.getD k 0).toNat, by omega⟩
        rw [hv] at c c2
        rw [q1, cs_mem] at c2
        refine ⟨Q ++ [v], ?_, by rw [List.length_append, q2]; rfl, ?_, fun a ha => ?_⟩
        · rw [List.take_add_one, q1, ← cs_app, ← hv, List.getD_eq_getElem?_getD, List.getElem?_eq_getElem (by omega)]; rfl
        · rw [List.nodup_append]
          refine ⟨q3, List.pairwise_singleton _ _, fun a ha b hb e => ?_⟩
          rw [List.mem_singleton] at hb
          subst hb; subst e; exact c2 ha
        · rcases List.mem_append.1 ha with z | z
          · exact q4 a z
          · rw [List.mem_singleton.1 z]; omega
  · rintro (u | r) hz
    · exact gSome ⟨fun _ => hz, fun _ => rfl⟩
    · exact gSome ⟨fun z => by rw [hz.1] at z; simp at z, fun z => absurd z hz.2⟩
theorem Rename_spec (hB : Mat n B) (p : List Int) (hp : p.length ≤ 9223372036854775807) : Gets (same_Rename (n : Int) (cs B) p) (fun r => (∃ Q, p = cs Q ∧ Q ∈ ords n ∧ r = ((n : Int), cs (ren n Q B), 0)) ∨ r = (0, [], 1)) := by
  unfold same_Rename
  refine gBindE hB.check (gIte (fun z => absurd rfl z) fun _ => gBind (order_spec p hp hB.m8) fun y hy => gIte (fun q => gSome (.inr rfl)) fun q => ?_)
  obtain ⟨Q, rfl, hQ⟩ := hy.1 (by simpa using q)
  exact gBindE (renamed_spec hB hQ) (gSome (.inl ⟨Q, rfl, hQ, rfl⟩))
theorem Rename_ok {Q : List Nat} (hB : Mat n B) (hQ : Q ∈ ords n) : same_Rename (n : Int) (cs B) (cs Q) = some ((n : Int), cs (ren n Q B), 0) := by
  have hl := (mem_ext.1 hQ).1
  have h8 := hB.m8
  unfold same_Rename
  obtain ⟨y, e, hy⟩ := order_spec (cs Q) (by rw [cs_len]; omega) h8
  rw [hB.check, Option.bind_some, if_neg (by simp), e, Option.bind_some, hy.2 ⟨Q, rfl, hQ⟩, if_neg (by simp), renamed_spec hB hQ]; rfl
/-! ### the first of all by new names -/
theorem Canon1 (hB : Mat n B) : ∀ (fuel i used : Nat) (p best : List Nat), p.length = n → i ≤ n → PreO n (p.take i) used → best.length = B.length → n < fuel + i →
    Gets (same_Canon_1 fuel (i : Int) (used : Int) (n : Int) (cs B) (cs p) (cs best)) (fun r => ∃ p' best', r = (cs p', cs best') ∧ p'.length = n ∧ p'.take i = p.take i ∧ best'.length = B.length ∧ (best' = best ∨ ∃ Q, Q ∈ ords n ∧ best' = ren n Q B) ∧ ¬ LX best best' ∧ ∀ Q, Q ∈ ords n → (∀ j, j < i → pf Q j = pf p j) → ¬ LX (ren n Q B) best')
  | 0, i, used, p, best, _, hi, _, _, hf => by omega
  | fuel + 1, i, used, p, best, hp, hi, hP, hb, hf => by
    have h8 := hB.m8
    have hp8 := pow_le8 h8
    have hlen := hB.toFam.len
    rw [same_Canon_1.eq_2]
    refine gIte (fun e => ?_) fun e => ?_
    · obtain rfl : i = n := by omega
      rw [List.take_of_length_le (by omega)] at hP
      have hpo : p ∈ ords i := mem_ext.2 ⟨hp, hP.nd, fun k hk => by
        obtain ⟨j, j1, rfl⟩ := mem_getD.1 hk
        exact hP.lt j j1⟩
      have hrl := ren_len hB hpo
      refine gJoin (R := fun v => ∃ best', v = cs best' ∧ best'.length = B.length ∧ (best' = best ∨ best' = ren i p B) ∧ ¬ LX best best' ∧ ¬ LX (ren i p B) best') ?_ fun j hj => ?_
      · rintro _ ⟨best', rfl, b1, b2, b3, b4⟩
        refine gSome ⟨p, best', rfl, hp, rfl, b1, b2.imp id fun q => ⟨p, hpo, q⟩, b3, fun Q hQ hq => ?_⟩
        rw [ords_ext hQ hpo hq]; exact b4
      · refine gBindE (renamed_spec hB hpo) (gBind (Compare_spec (a := ren i p B) (b := best) (by rw [hrl, hb]) (by rw [hrl]; omega)) fun y hy => gIte (fun q => hj _ ⟨ren i p B, rfl, hrl, .inr rfl, ?_, LX.irr⟩) fun q => hj _ ⟨best, rfl, hb, .inl rfl, LX.irr, fun z => q (hy.2 z)⟩)
        exact fun z => LX.le (by rw [hrl, hb]) rfl LX.irr (hy.1 q) z
    have hin : i < n := by omega
    refine gBind (R := fun c => ∃ p' best', c = (cs p', cs best') ∧ p'.length = n ∧ p'.take i = p.take i ∧ best'.length = B.length ∧ (best' = best ∨ ∃ Q, Q ∈ ords n ∧ best' = ren n Q B) ∧ ¬ LX best best' ∧ ∀ Q, Q ∈ ords n → (∀ j, j < i → pf Q j = pf p j) → ¬ LX (ren n Q B) best')
      (gFor n (fun k (x : List Int × List Int × Int) => x.2.2 = (k : Int) ∧ ∃ p' best', x.1 = cs p' ∧ x.2.1 = cs best' ∧ p'.length = n ∧ p'.take i = p.take i ∧ best'.length = B.length ∧ (best' = best ∨ ∃ Q, Q ∈ ords n ∧ best' = ren n Q B) ∧ ¬ LX best best' ∧ ∀ Q, Q ∈ ords n → (∀ j, j < i → pf Q j = pf p j) → pf Q i < k → ¬ LX (ren n Q B) best') (Nat.zero_le _) ⟨rfl, p, best, rfl, rfl, hp, rfl, hb, .inl rfl, LX.irr, fun Q _ _ z => by omega⟩ ?_) ?_
    · rintro k ⟨_, _, _⟩ hk ⟨rfl, p', best', rfl, rfl, p1, p2, b1, b2, b3, b4⟩
      dsimp only
      simp only [toNat_nat, shl_nat']
      refine gIte (fun h1 => gChk (by omega) ?_) fun h1 => gSome ⟨p', best', rfl, p1, p2, b1, b2, b3, fun Q hQ hq => b4 Q hQ hq (by have := (ords_pla hQ).lt i hin; omega)⟩
      have hk' : k < n := by omega
      have hbit : iand ((used : Int) / ((2 ^ k : Nat) : Int)) 1 = 0 ↔ used.testBit k = false := by
        rw [bitS]; cases used.testBit k <;> simp
      have hpl : (p.take i).length = i := by rw [List.length_take]; omega
      have hpre : ∀ j, j < i → (p.take i).getD j 0 = pf p j := fun j hj => by
        rw [List.getD_eq_getElem?_getD, List.getElem?_take, if_pos hj, ← List.getD_eq_getElem?_getD]
      refine gIte (fun h2 => ?_) fun h2 => gSome ⟨hk', by simp, p', best', rfl, rfl, p1, p2, b1, b2, b3, fun Q hQ hq hlt => ?_⟩
      rotate_left
      · refine b4 Q hQ hq ?_
        rcases Nat.lt_succ_iff_lt_or_eq.1 hlt with c | c
        · exact c
        · have hu : used.testBit k = true := by
            cases w : used.testBit k with
            | true => rfl
            | false => exact absurd (hbit.2 w) h2
          obtain ⟨j, j1, j2⟩ := mem_getD.1 ((hP.ub k).1 hu)
          rw [hpl] at j1
          rw [hpre j j1, ← hq j j1, ← c] at j2
          have := (ords_pla hQ).inj j i (by omega) hin j2
          omega
      have hbu := hbit.1 h2
      have hP2 := hP.more hk' hbu (by omega)
      have eset : (cs p').set i (k : Int) = cs (p'.set i k) := by rw [cs, cs, List.map_set]
      have etk : (p'.set i k).take (i + 1) = p.take i ++ [k] := by
        rw [List.take_add_one, List.take_set_of_le (Nat.le_refl _), p2, List.getElem?_set]
        simp [p1, hin]
      rw [eset, show ior (used : Int) ((2 ^ k : Nat) : Int) = ((used ||| 2 ^ k : Nat) : Int) from or_nat _ _, show ((i : Int) + 1) = ((i + 1 : Nat) : Int) by simp]
      refine gChk (by rw [cs_len]; omega) (gChk (by omega) ?_)
      refine gBind (Canon1 hB fuel (i + 1) (used ||| 2 ^ k) (p'.set i k) best' (by rw [List.length_set, p1]) (by omega) (by rw [etk]; exact hP2) b1 (by omega)) ?_
      rintro _ ⟨p'', best'', rfl, c1, c2, c3, c4, c5, c6⟩
      refine gSome ⟨hk', by simp, p'', best'', rfl, rfl, c1, ?_, c3, ?_, ?_, fun Q hQ hq hlt => ?_⟩
      · have := congrArg (List.take i) (c2.trans etk)
        rwa [List.take_take, Nat.min_eq_left (by omega), List.take_append_of_le_length (by rw [hpl]; exact Nat.le_refl _), List.take_take, Nat.min_self] at this
      · rcases c4 with e | e
        · rw [e]; exact b2
        · exact .inr e
      · exact LX.trans_le (by rw [c3, b1]) (by rw [hb, b1]) c5 b3
      · rcases Nat.lt_succ_iff_lt_or_eq.1 hlt with c | c
        · exact LX.trans_le (by rw [c3, b1]) (by rw [ren_len hB hQ, b1]) c5 (b4 Q hQ hq c)
        · refine c6 Q hQ fun j hj => ?_
          rcases Nat.lt_succ_iff_lt_or_eq.1 hj with d | d
          · rw [hq j d]
            have e1 : pf (p'.set i k) j = pf p' j := by
              show (p'.set i k).getD j 0 = p'.getD j 0
              rw [List.getD_eq_getElem?_getD, List.getElem?_set, if_neg (by omega), ← List.getD_eq_getElem?_getD]
            have e2 : (p'.take i).getD j 0 = pf p' j := by rw [List.getD_eq_getElem?_getD, List.getElem?_take, if_pos d, ← List.getD_eq_getElem?_getD]
            rw [e1, ← e2, p2, hpre j d]
          · subst d
            rw [c]
            show k = (p'.set j k).getD j 0
            rw [List.getD_eq_getElem?_getD, List.getElem?_set]
            simp [p1, hin]
    · rintro _ ⟨p', best', rfl, h⟩
      exact gSome ⟨p', best', rfl, h⟩
/-- The first of all. -/
def Cano (n : Nat) (B K : List Nat) : Prop := (∃ Q, Q ∈ ords n ∧ K = ren n Q B) ∧ ∀ Q, Q ∈ ords n → ¬ LX (ren n Q B) K
theorem Canon_spec (hB : Mat n B) : Gets (same_Canon (n : Int) (cs B)) (fun r => ∃ K, r = ((n : Int), cs K, 0) ∧ Cano n B K) := by
  have h8 := hB.m8
  have hlen := hB.toFam.len
  unfold same_Canon
  refine gBindE hB.check (gIte (fun z => absurd rfl z) fun _ => gChk (by rw [cs_len]; omega) (gChk (by omega) ?_))
  have er : List.replicate ((n : Int)).toNat (0 : Int) = cs (List.replicate n 0) := by rw [toNat_nat, cs, List.map_replicate]; rfl
  rw [er]
  refine gBind (Canon1 hB 12 0 0 (List.replicate n 0) B List.length_replicate (Nat.zero_le _) (by rw [List.take_zero]; exact pre0) rfl (by omega)) ?_
  rintro _ ⟨p', K, rfl, _, _, _, k1, _, k3⟩
  refine gSome ⟨K, rfl, ?_, fun Q hQ => k3 Q hQ fun j hj => by omega⟩
  rcases k1 with e | e
  · exact ⟨lst n (fun i => i), lst_mem (pla_id n), by rw [e, ren_id hB.toFam fun i hi => lst_get hi]⟩
  · exact e
theorem Cano.uniq {K K' p0 : List Nat} (hB : Mat n B) (hp : p0 ∈ ords n) (h : Cano n B K) (h' : Cano n (ren n p0 B) K') : K' = K := by
  have h8 := hB.m8
  obtain ⟨⟨Q, q1, q2⟩, q3⟩ := h
  obtain ⟨⟨Q', r1, r2⟩, r3⟩ := h'
  obtain ⟨τ, h1, h2, h3⟩ := inv_ex hp
  have e1 : K' = ren n (comp n Q' p0) B := by rw [r2, ren_comp h8 hp]
  have e2 : K = ren n (comp n Q τ) (ren n p0 B) := by
    have : ren n τ (ren n p0 B) = B := by rw [← ren_comp h8 hp, ren_id hB.toFam fun i hi => by rw [comp_get hi]; exact h3 i hi]
    rw [q2, ren_comp h8 h1, this]
  refine LX.anti ?_ ?_ ?_
  · rw [e1, q2, ren_len hB (comp_mem r1 hp), ren_len hB q1]
  · rw [e1]; exact q3 _ (comp_mem r1 hp)
  · rw [e2]; exact r3 _ (comp_mem q1 h1)
/-! ### orbits -/
theorem Orbits_spec (hB : Mat n B) : Gets (same_Orbits (n : Int) (cs B)) (fun r => r.2 = 0 ∧ ∃ L, r.1 = cs L ∧ Fam n L ∧ ∀ s, s ∈ L ↔ ∃ i, i < n ∧ ∀ x, s.testBit x = true ↔ orb n B i x) := by
  have h8 := hB.m8
  have hp8 := pow_le8 h8
  unfold same_Orbits
  refine gBindE hB.check (gIte (fun z => absurd rfl z) fun _ => gChk (by omega) ?_)
  have er : List.replicate ((n : Int)).toNat (0 : Int) = cs (List.replicate n 0) := by rw [toNat_nat, cs, List.map_replicate]; rfl
  rw [er]
  refine gBind (R := fun y => ∃ T, y = cs T ∧ T.length = n ∧ ∀ i, i < n → ∀ x, (T.getD i 0).testBit x = true ↔ orb n B i x) ?_ ?_
  · unfold same_each_v3
    refine gBindE (ranks_ok hB) (gBindE (ranks_ok hB) ?_)
    refine gBind (each1_orb hB hB (cs B) (cs B) 12 [] 0 (List.replicate n 0) pre0 (by simp only [List.length_nil]; omega) List.length_replicate) ?_
    rintro ⟨b, p, c⟩ ⟨rfl, _, T, rfl, t1, t2⟩
    refine gSome ⟨T, rfl, t1, fun i hi x => ?_⟩
    rw [t2 i hi x]
    have e0 : (List.replicate n 0).getD i 0 = 0 := by
      rw [List.getD_eq_getElem?_getD, List.getElem?_replicate]; split <;> rfl
    rw [e0]
    constructor
    · rintro (z | ⟨Q, z1, z2⟩)
      · simp at z
      · have := (goo_nil rfl).1 z1
        exact ⟨Q, this.1, (tr_iff hB hB this.1).1 this.2, z2⟩
    · rintro ⟨Q, z1, z2, z3⟩
      exact .inr ⟨Q, (goo_nil rfl).2 ⟨z1, (tr_iff hB hB z1).2 z2⟩, z3⟩
  · rintro _ ⟨T, rfl, t1, t2⟩
    have hlt : ∀ s, s ∈ T → s < 2 ^ n := fun s hs => by
      obtain ⟨i, i1, rfl⟩ := mem_getD.1 hs
      refine lt_of_bits fun x hx => bool_ne fun z => ?_
      obtain ⟨Q, q1, _, q3⟩ := (t2 i (by omega) x).1 z
      have := (ords_pla q1).lt i (by omega)
      omega
    obtain ⟨K, e, k1, k2⟩ := sortU h8 T hlt
    have kl := k1.len
    refine gChk (by rw [cs_len]; omega) ?_
    rw [e]
    refine gChk (by rw [cs_len]; omega) (gSome ⟨rfl, K, rfl, k1, fun s => ?_⟩)
    rw [k2, mem_getD]
    constructor
    · rintro ⟨i, i1, rfl⟩; exact ⟨i, by omega, t2 i (by omega)⟩
    · rintro ⟨i, i1, h⟩
      exact ⟨i, by omega, bx fun x => by rw [Bool.eq_iff_iff, t2 i i1 x, h x]⟩
end
end Go.SH
