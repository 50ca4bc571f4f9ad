/-
  Orders as lists, how many there are; matroids by new names; LAGRANGE by fibres. Conditions: at most eight elements where sets are numbers.
-/
import Derived.Test.YtdhbpoafkhojnaaLSo
set_option linter.unusedSimpArgs false
set_option linter.unusedVariables false
namespace Go.SH
open Go Go.AX

/-- All orders of n elements, by their first j. -/
def ext (n : Nat) : Nat → List (List Nat)
  | 0 => [[]]
  | j + 1 => (ext n j).flatMap fun p => ((List.range n).filter fun k => !p.contains k).map fun k => p ++ [k]
theorem mem_ext {n : Nat} : ∀ {j : Nat} {p : List Nat}, p ∈ ext n j ↔ p.length = j ∧ p.Nodup ∧ ∀ k, k ∈ p → k < n
  | 0, p => by
    rw [ext, List.mem_singleton]
    constructor
    · rintro rfl; exact ⟨rfl, List.nodup_nil, fun k hk => by simp at hk⟩
    · rintro ⟨h, _⟩; exact List.length_eq_zero_iff.1 h
  | j + 1, p => by
    rw [ext, List.mem_flatMap]
    constructor
    · rintro ⟨q, hq, hp⟩
      obtain ⟨k, hk, rfl⟩ := List.mem_map.1 hp
      obtain ⟨h1, h2, h3⟩ := mem_ext.1 hq
      rw [List.mem_filter, List.mem_range] at hk
      have hkq : k ∉ q := by simpa using hk.2
      refine ⟨by rw [List.length_append, h1]; rfl, ?_, fun x hx => ?_⟩
      · rw [List.nodup_append]
        refine ⟨h2, List.pairwise_singleton _ _, fun a ha b hb e => ?_⟩
        rw [List.mem_singleton] at hb
        subst hb; subst e; exact hkq ha
      · rcases List.mem_append.1 hx with c | c
        · exact h3 x c
        · rw [List.mem_singleton.1 c]; exact hk.1
    · rintro ⟨h1, h2, h3⟩
      have hne : p ≠ [] := fun e => by rw [e] at h1; cases h1
      have e := List.dropLast_concat_getLast hne
      rw [← e, List.nodup_append] at h2
      obtain ⟨n1, _, n3⟩ := h2
      refine ⟨p.dropLast, mem_ext.2 ⟨by rw [List.length_dropLast, h1]; rfl, n1, fun k hk => h3 k (by rw [← e]; exact List.mem_append_left _ hk)⟩, List.mem_map.2 ⟨p.getLast hne, ?_, e⟩⟩
      rw [List.mem_filter, List.mem_range]
      refine ⟨h3 _ (List.getLast_mem hne), ?_⟩
      have : p.getLast hne ∉ p.dropLast := fun q => n3 _ q _ (List.mem_singleton.2 rfl) rfl
      simpa using this
theorem nodup_flatMap {α β : Type} {f : α → List β} : ∀ {L : List α}, L.Nodup → (∀ a, a ∈ L → (f a).Nodup) → (∀ a, a ∈ L → ∀ b, b ∈ L → ∀ x, x ∈ f a → x ∈ f b → a = b) → (L.flatMap f).Nodup
  | [], _, _, _ => by rw [List.flatMap_nil]; exact List.nodup_nil
  | a :: L, h1, h2, h3 => by
    rw [List.flatMap_cons, List.nodup_append]
    have hn := List.nodup_cons.1 h1
    refine ⟨h2 a List.mem_cons_self, nodup_flatMap hn.2 (fun b hb => h2 b (List.mem_cons_of_mem _ hb)) (fun b hb c hc => h3 b (List.mem_cons_of_mem _ hb) c (List.mem_cons_of_mem _ hc)), fun x hx y hy e => ?_⟩
    subst e
    obtain ⟨b, hb, hxb⟩ := List.mem_flatMap.1 hy
    have := h3 a List.mem_cons_self b (List.mem_cons_of_mem _ hb) x hx hxb
    subst this; exact hn.1 hb
theorem nodup_map_inj {α β : Type} {f : α → β} : ∀ {L : List α}, L.Nodup → (∀ a, a ∈ L → ∀ b, b ∈ L → f a = f b → a = b) → (L.map f).Nodup
  | [], _, _ => List.nodup_nil
  | a :: L, h1, h2 => by
    have hn := List.nodup_cons.1 h1
    rw [List.map_cons, List.nodup_cons]
    refine ⟨fun q => ?_, nodup_map_inj hn.2 fun b hb c hc => h2 b (List.mem_cons_of_mem _ hb) c (List.mem_cons_of_mem _ hc)⟩
    obtain ⟨b, hb, e⟩ := List.mem_map.1 q
    have := h2 a List.mem_cons_self b (List.mem_cons_of_mem _ hb) e.symm
    subst this; exact hn.1 hb
theorem app_inj {p q : List Nat} {a b : Nat} (h : p ++ [a] = q ++ [b]) : p = q ∧ a = b := by
  have := List.append_inj' h rfl
  exact ⟨this.1, by simpa using this.2⟩
theorem ext_nodup (n : Nat) : ∀ j, (ext n j).Nodup
  | 0 => List.pairwise_singleton _ _
  | j + 1 => by
    refine nodup_flatMap (ext_nodup n j) (fun p hp => nodup_map_inj (List.Pairwise.filter _ List.nodup_range) fun a _ b _ e => (app_inj e).2) fun p hp q hq x hx hy => ?_
    obtain ⟨a, _, rfl⟩ := List.mem_map.1 hx
    obtain ⟨b, _, e⟩ := List.mem_map.1 hy
    exact (app_inj e).1.symm
theorem filter_two {α : Type} (p : α → Bool) : ∀ L : List α, (L.filter p).length + (L.filter fun a => !p a).length = L.length
  | [] => rfl
  | a :: L => by
    have := filter_two p L
    rw [List.filter_cons, List.filter_cons]
    cases p a <;> simp <;> omega
/-- One into the other. -/
theorem inj_lenG {α β : Type} {g : α → β} (K : List α) (C : List β) (h1 : K.Nodup) (h2 : ∀ a, a ∈ K → ∀ b, b ∈ K → g a = g b → a = b) (h3 : ∀ a, a ∈ K → g a ∈ C) : K.length ≤ C.length := by
  classical
  induction K generalizing C with
  | nil => exact Nat.zero_le _
  | cons a K ih =>
    have hc : g a ∈ C := h3 a List.mem_cons_self
    have hn := List.nodup_cons.1 h1
    have := ih (C.erase (g a)) hn.2 (fun x hx y hy => h2 x (List.mem_cons_of_mem _ hx) y (List.mem_cons_of_mem _ hy)) fun x hx => by
      refine (List.mem_erase_of_ne fun q => ?_).2 (h3 x (List.mem_cons_of_mem _ hx))
      have := h2 x (List.mem_cons_of_mem _ hx) a List.mem_cons_self q
      subst this; exact hn.1 hx
    rw [List.length_erase_of_mem hc] at this
    have : 0 < C.length := List.length_pos_of_mem hc
    rw [List.length_cons]; omega
theorem left_len {n : Nat} {p : List Nat} (h2 : p.Nodup) (h3 : ∀ k, k ∈ p → k < n) : ((List.range n).filter fun k => !p.contains k).length = n - p.length := by
  have h := filter_two (fun k => p.contains k) (List.range n)
  rw [List.length_range] at h
  have e : ((List.range n).filter fun k => p.contains k).length = p.length := by
    refine Nat.le_antisymm (inj_lenG (g := id) _ _ (List.Pairwise.filter _ List.nodup_range) (fun _ _ _ _ q => q) fun a ha => ?_) (inj_lenG (g := id) _ _ h2 (fun _ _ _ _ q => q) fun a ha => ?_)
    · simpa using (List.mem_filter.1 ha).2
    · exact List.mem_filter.2 ⟨List.mem_range.2 (h3 a ha), by simpa using ha⟩
  omega
def fact : Nat → Nat
  | 0 => 1
  | n + 1 => (n + 1) * fact n
theorem flat_len {α β : Type} {f : α → List β} {c : Nat} : ∀ L : List α, (∀ a, a ∈ L → (f a).length = c) → (L.flatMap f).length = L.length * c
  | [], _ => by simp
  | a :: L, h => by
    rw [List.flatMap_cons, List.length_append, flat_len L fun b hb => h b (List.mem_cons_of_mem _ hb), h a List.mem_cons_self, List.length_cons, Nat.succ_mul]; omega
theorem ext_len (n : Nat) : ∀ j, j ≤ n → (ext n j).length * fact (n - j) = fact n
  | 0, _ => by rw [ext]; simp
  | j + 1, hj => by
    have ih := ext_len n j (by omega)
    have : (ext n (j + 1)).length = (ext n j).length * (n - j) := by
      rw [ext]
      refine flat_len _ fun p hp => ?_
      obtain ⟨h1, h2, h3⟩ := mem_ext.1 hp
      rw [List.length_map, left_len h2 h3, h1]
    rw [this, Nat.mul_assoc]
    have e : n - j = (n - (j + 1)) + 1 := by omega
    rw [show (n - j) * fact (n - (j + 1)) = fact (n - j) by rw [e]; rfl]
    exact ih
theorem ext_all (n : Nat) : (ext n n).length = fact n := by
  have := ext_len n n (Nat.le_refl n)
  rw [Nat.sub_self] at this
  rw [← this, fact, Nat.mul_one]

/-- How many of a list are so. -/
noncomputable def cntP {α : Type} (O : List α) (p : α → Prop) : Nat := (O.filter fun a => @decide (p a) (Classical.propDecidable _)).length
section
variable {α : Type} {O : List α}
theorem cntP_congr {p q : α → Prop} (h : ∀ a, a ∈ O → (p a ↔ q a)) : cntP O p = cntP O q := by
  unfold cntP
  rw [List.filter_congr fun a ha => ?_]
  classical
  exact decide_eq_decide.2 (h a ha)
theorem cntP_cons {a : α} {p : α → Prop} : cntP (a :: O) p = (@ite _ (p a) (Classical.propDecidable _) 1 0) + cntP O p := by
  classical
  unfold cntP
  rw [List.filter_cons]
  by_cases h : p a
  · simp [h]; omega
  · simp [h]
theorem cntP_split {p q r : α → Prop} (h : ∀ a, a ∈ O → (p a ↔ q a ∨ r a)) (hd : ∀ a, a ∈ O → q a → ¬ r a) : cntP O p = cntP O q + cntP O r := by
  classical
  induction O with
  | nil => rfl
  | cons a O ih =>
    rw [cntP_cons, cntP_cons, cntP_cons, ih (fun b hb => h b (List.mem_cons_of_mem _ hb)) fun b hb => hd b (List.mem_cons_of_mem _ hb)]
    have h1 := h a List.mem_cons_self
    have h2 := hd a List.mem_cons_self
    by_cases c : q a <;> by_cases d : r a
    · exact absurd d (h2 c)
    · have : p a := h1.2 (.inl c)
      simp [c, d, this]; omega
    · have : p a := h1.2 (.inr d)
      simp [c, d, this]; omega
    · have : ¬ p a := fun z => (h1.1 z).elim c d
      simp [c, d, this]
theorem cntP_none {p : α → Prop} (h : ∀ a, a ∈ O → ¬ p a) : cntP O p = 0 := by
  classical
  unfold cntP
  rw [List.filter_eq_nil_iff.2 fun a ha => by simpa using h a ha]; rfl
theorem cntP_all {p : α → Prop} (h : ∀ a, a ∈ O → p a) : cntP O p = O.length := by
  classical
  unfold cntP
  rw [List.filter_eq_self.2 fun a ha => by simpa using h a ha]
theorem cntP_le {p : α → Prop} : cntP O p ≤ O.length := List.length_filter_le _ _
theorem cntP_pos {p : α → Prop} {a : α} (ha : a ∈ O) (h : p a) : 0 < cntP O p := by
  classical
  exact List.length_pos_of_mem (List.mem_filter.2 ⟨ha, by simpa using h⟩)
theorem cntP_one {p : α → Prop} {a : α} (hn : O.Nodup) (ha : a ∈ O) (h : ∀ b, b ∈ O → (p b ↔ b = a)) : cntP O p = 1 := by
  classical
  induction O with
  | nil => simp at ha
  | cons b O ih =>
    have hn' := List.nodup_cons.1 hn
    rw [cntP_cons]
    rcases List.mem_cons.1 ha with e | c
    · subst e
      rw [cntP_none fun x hx z => ?_]
      · have : p a := (h a ha).2 rfl
        simp [this]
      · have := (h x (List.mem_cons_of_mem _ hx)).1 z
        subst this; exact hn'.1 hx
    · rw [ih hn'.2 c fun x hx => h x (List.mem_cons_of_mem _ hx)]
      have : ¬ p b := fun z => by
        have := (h b List.mem_cons_self).1 z
        subst this; exact hn'.1 c
      simp [this]
theorem cntP_inj {β : Type} {O' : List β} {p : α → Prop} {q : β → Prop} (hn : O.Nodup) (g : α → β) (h1 : ∀ a, a ∈ O → p a → g a ∈ O' ∧ q (g a)) (h2 : ∀ a, a ∈ O → ∀ b, b ∈ O → g a = g b → a = b) : cntP O p ≤ cntP O' q := by
  classical
  refine inj_lenG (g := g) _ _ (List.Pairwise.filter _ hn) (fun a ha b hb => h2 a (List.mem_filter.1 ha).1 b (List.mem_filter.1 hb).1) fun a ha => ?_
  obtain ⟨z1, z2⟩ := List.mem_filter.1 ha
  have := h1 a z1 (by simpa using z2)
  exact List.mem_filter.2 ⟨this.1, by simpa using this.2⟩
/-- Fibres alike. -/
theorem fibres {β : Type} (g : α → β) (c : Nat) (p : α → Prop) : ∀ (L : List β), L.Nodup → (∀ b, b ∈ L → cntP O (fun a => p a ∧ g a = b) = c) → cntP O (fun a => p a ∧ g a ∈ L) = L.length * c
  | [], _, _ => by rw [cntP_none fun a _ z => by simp at z]; simp
  | b :: L, hn, h => by
    have hn' := List.nodup_cons.1 hn
    rw [cntP_split (q := fun a => p a ∧ g a = b) (r := fun a => p a ∧ g a ∈ L) (fun a _ => ?_) (fun a _ h1 h2 => ?_), h b List.mem_cons_self, fibres g c p L hn'.2 fun b' hb => h b' (List.mem_cons_of_mem _ hb), List.length_cons, Nat.succ_mul]
    · omega
    · rw [List.mem_cons]; constructor
      · rintro ⟨z1, z2 | z2⟩
        · exact .inl ⟨z1, z2⟩
        · exact .inr ⟨z1, z2⟩
      · rintro (⟨z1, z2⟩ | ⟨z1, z2⟩)
        · exact ⟨z1, .inl z2⟩
        · exact ⟨z1, .inr z2⟩
    · rw [← h1.2] at hn'; exact hn'.1 h2.2
end
/-! ### orders and what they do -/
abbrev pf (Q : List Nat) : Nat → Nat := fun i => Q.getD i 0
abbrev ords (n : Nat) : List (List Nat) := ext n n
section
variable {n : Nat} {p q : List Nat}
theorem ords_pla (h : p ∈ ords n) : Pla n n (pf p) := by
  obtain ⟨h1, h2, h3⟩ := mem_ext.1 h
  exact ⟨fun i hi => h3 _ (getD_mem (by omega)), fun i j hi hj e => nodup_getD h2 (by omega) (by omega) e⟩
def lst (n : Nat) (π : Nat → Nat) : List Nat := (List.range n).map π
theorem lst_get {π : Nat → Nat} {i : Nat} (hi : i < n) : (lst n π).getD i 0 = π i := by
  rw [lst, List.getD_eq_getElem?_getD, List.getElem?_map, List.getElem?_range hi]; rfl
theorem lst_len {π : Nat → Nat} : (lst n π).length = n := by rw [lst, List.length_map, List.length_range]
theorem lst_mem {π : Nat → Nat} (h : Pla n n π) : lst n π ∈ ords n := by
  refine mem_ext.2 ⟨lst_len, nodup_map_inj List.nodup_range fun a ha b hb e => h.inj a b (List.mem_range.1 ha) (List.mem_range.1 hb) e, fun k hk => ?_⟩
  obtain ⟨i, hi, rfl⟩ := List.mem_map.1 hk
  exact h.lt i (List.mem_range.1 hi)
theorem list_extN {l k : List Nat} (h : l.length = k.length) (e : ∀ i, i < l.length → l.getD i 0 = k.getD i 0) : l = k := by
  refine List.ext_getElem h fun i h1 h2 => ?_
  have := e i h1
  rwa [List.getD_eq_getElem?_getD, List.getD_eq_getElem?_getD, List.getElem?_eq_getElem h1, List.getElem?_eq_getElem h2] at this
theorem ords_ext (hp : p ∈ ords n) (hq : q ∈ ords n) (h : ∀ i, i < n → pf p i = pf q i) : p = q :=
  list_extN ((mem_ext.1 hp).1.trans (mem_ext.1 hq).1.symm) fun i hi => h i (by rw [(mem_ext.1 hp).1] at hi; exact hi)
def comp (n : Nat) (p q : List Nat) : List Nat := lst n fun i => pf p (pf q i)
theorem comp_get {i : Nat} (hi : i < n) : pf (comp n p q) i = pf p (pf q i) := lst_get hi
theorem comp_mem (hp : p ∈ ords n) (hq : q ∈ ords n) : comp n p q ∈ ords n := by
  have h1 := ords_pla hp
  have h2 := ords_pla hq
  exact lst_mem ⟨fun i hi => h1.lt _ (h2.lt i hi), fun i j hi hj e => h2.inj i j hi hj (h1.inj _ _ (h2.lt i hi) (h2.lt j hj) e)⟩
theorem comp_inj {q' : List Nat} (hp : p ∈ ords n) (hq : q ∈ ords n) (hq' : q' ∈ ords n) (e : comp n p q = comp n p q') : q = q' := by
  refine ords_ext hq hq' fun i hi => ?_
  have h : pf (comp n p q) i = pf (comp n p q') i := by rw [e]
  rw [comp_get hi, comp_get hi] at h
  exact (ords_pla hp).inj _ _ ((ords_pla hq).lt i hi) ((ords_pla hq').lt i hi) h
theorem inv_ex (hp : p ∈ ords n) : ∃ τ, τ ∈ ords n ∧ (∀ i, i < n → pf p (pf τ i) = i) ∧ ∀ i, i < n → pf τ (pf p i) = i := by
  have h := ords_pla hp
  obtain ⟨τ, t1, t2⟩ := same_im (f := pf p) (pla_id n) (by rw [h.onto, im_id (full_lt n)])
  have e : ∀ i, i < n → pf (lst n τ) i = τ i := fun i hi => lst_get hi
  refine ⟨lst n τ, lst_mem t1, fun i hi => by rw [e i hi]; exact t2 i hi, fun i hi => ?_⟩
  rw [e _ (h.lt i hi)]
  exact h.inj _ _ (t1.lt _ (h.lt i hi)) hi (t2 _ (h.lt i hi))
theorem im_comp2 (hq : q ∈ ords n) (s : Nat) : im n n (pf (comp n p q)) s = im n n (pf p) (im n n (pf q) s) := by
  rw [im_comp (ords_pla hq).lt, im_congr fun i hi => comp_get hi]
theorem im_inv {τ : List Nat} (hp : p ∈ ords n) (h : ∀ i, i < n → pf τ (pf p i) = i) {s : Nat} (hs : s < 2 ^ n) : im n n (pf τ) (im n n (pf p) s) = s := by
  rw [im_comp (ords_pla hp).lt, im_congr h, im_id hs]
/-- Sets by new names, rising. -/
noncomputable def ren (n : Nat) (p B : List Nat) : List Nat := (List.range (2 ^ n)).filter fun s => @decide (∃ b, b ∈ B ∧ s = im n n (pf p) b) (Classical.propDecidable _)
theorem mem_ren {B : List Nat} {s : Nat} : s ∈ ren n p B ↔ ∃ b, b ∈ B ∧ s = im n n (pf p) b := by
  classical
  rw [ren, List.mem_filter, List.mem_range]
  constructor
  · rintro ⟨_, h⟩; simpa using h
  · rintro ⟨b, h1, rfl⟩; exact ⟨im_lt .., by simpa using ⟨b, h1, rfl⟩⟩
theorem ren_fam (h8 : n ≤ 8) (B : List Nat) : Fam n (ren n p B) := filter_fam h8 _
theorem ren_comp (h8 : n ≤ 8) (hq : q ∈ ords n) (B : List Nat) : ren n (comp n p q) B = ren n p (ren n q B) :=
  (ren_fam h8 _).ext (ren_fam h8 _) fun s => by
    rw [mem_ren, mem_ren]
    constructor
    · rintro ⟨b, h1, rfl⟩; exact ⟨_, mem_ren.2 ⟨b, h1, rfl⟩, im_comp2 hq b⟩
    · rintro ⟨t, h1, rfl⟩
      obtain ⟨b, h2, rfl⟩ := mem_ren.1 h1
      exact ⟨b, h2, (im_comp2 hq b).symm⟩
theorem ren_id {B : List Nat} (hB : Fam n B) (hp : ∀ i, i < n → pf p i = i) : ren n p B = B :=
  (ren_fam hB.m8 _).ext hB fun s => by
    have e : ∀ b, b ∈ B → im n n (pf p) b = b := fun b hb => by rw [im_congr hp, im_id (hB.lt b hb)]
    rw [mem_ren]
    constructor
    · rintro ⟨b, h1, rfl⟩; rw [e b h1]; exact h1
    · intro h; exact ⟨s, h, (e s h).symm⟩
theorem ren_mat {B : List Nat} (hB : Mat n B) (hp : p ∈ ords n) : Mat n (ren n p B) ∧ ∀ s, s < 2 ^ n → rk n (ren n p B) (im n n (pf p) s) = rk n B s := by
  obtain ⟨τ, h1, h2, h3⟩ := inv_ex hp
  have hr := (ords_pla h1).rkF hB.rkF 0
  have e0 : ∀ s, rk n B (im n n (pf τ) s ||| 0) - rk n B 0 = rk n B (im n n (pf τ) s) := fun s => by rw [Nat.or_zero, hB.rk_zero]; rfl
  have e1 : ∀ s, s < 2 ^ n → im n n (pf τ) (im n n (pf p) s) = s := fun s hs => im_inv hp h3 hs
  have e2 : ∀ s, s < 2 ^ n → im n n (pf p) (im n n (pf τ) s) = s := fun s hs => im_inv h1 h2 hs
  have := hr.mat hB.m8 (ren_fam (p := p) hB.m8 B) ?_
  · refine ⟨this.1, fun s hs => ?_⟩
    rw [this.2 _ (im_lt ..)]
    show rk n B (im n n (pf τ) (im n n (pf p) s) ||| 0) - rk n B 0 = _
    rw [e0, e1 s hs]
  · intro s
    show _ ↔ s < 2 ^ n ∧ rk n B (im n n (pf τ) s ||| 0) - rk n B 0 = cnt n s ∧ rk n B (im n n (pf τ) s ||| 0) - rk n B 0 = rk n B (im n n (pf τ) (2 ^ n - 1) ||| 0) - rk n B 0
    rw [e0, e0, (ords_pla h1).onto, mem_ren]
    constructor
    · rintro ⟨b, h4, rfl⟩
      obtain ⟨b1, b2, b3⟩ := (hB.mem_iff b).1 h4
      rw [e1 b b1, (ords_pla hp).cnt b b1]
      exact ⟨im_lt .., b2, b3⟩
    · rintro ⟨s1, s2, s3⟩
      refine ⟨im n n (pf τ) s, (hB.mem_iff _).2 ⟨im_lt .., by rw [s2, (ords_pla h1).cnt s s1], s3⟩, (e2 s s1).symm⟩
/-- It makes one of the other. -/
theorem tr_iff {A C : List Nat} (hA : Mat n A) (hC : Mat n C) (hp : p ∈ ords n) : (∀ s, s < 2 ^ n → rk n A s = rk n C (im n n (pf p) s)) ↔ ren n p A = C := by
  constructor
  · intro h
    refine (ren_fam hA.m8 _).ext hC.toFam fun s => ?_
    obtain ⟨τ, h1, h2, h3⟩ := inv_ex hp
    have e2 : ∀ s, s < 2 ^ n → im n n (pf p) (im n n (pf τ) s) = s := fun s hs => im_inv h1 h2 hs
    rw [mem_ren]
    constructor
    · rintro ⟨b, b0, rfl⟩
      obtain ⟨b1, b2, b3⟩ := (hA.mem_iff b).1 b0
      refine (hC.mem_iff _).2 ⟨im_lt .., ?_, ?_⟩
      · rw [← h b b1, (ords_pla hp).cnt b b1]; exact b2
      · rw [← h b b1, b3, h _ (full_lt n), (ords_pla hp).onto]
    · intro hs
      obtain ⟨s1, s2, s3⟩ := (hC.mem_iff s).1 hs
      refine ⟨im n n (pf τ) s, (hA.mem_iff _).2 ⟨im_lt .., ?_, ?_⟩, (e2 s s1).symm⟩
      · rw [h _ (im_lt ..), e2 s s1, s2, (ords_pla h1).cnt s s1]
      · rw [h _ (im_lt ..), e2 s s1, s3, h _ (full_lt n), (ords_pla hp).onto]
  · rintro rfl s hs
    exact ((ren_mat hA hp).2 s hs).symm
end
/-! ### LAGRANGE -/
section
variable {n : Nat} {B : List Nat} (hB : Fam n B)
include hB
/-- Orders that leave it as it is. -/
noncomputable def aut (n : Nat) (B : List Nat) : Nat := cntP (ords n) fun p => ren n p B = B
theorem fibre_len {K p0 : List Nat} (hp : p0 ∈ ords n) (e : ren n p0 B = K) : cntP (ords n) (fun p => ren n p B = K) = aut n B := by
  have h8 := hB.m8
  obtain ⟨τ, h1, h2, h3⟩ := inv_ex hp
  refine Nat.le_antisymm (cntP_inj (ext_nodup n n) (comp n τ) (fun q hq hk => ⟨comp_mem h1 hq, ?_⟩) fun a ha b hb => comp_inj h1 ha hb) (cntP_inj (ext_nodup n n) (comp n p0) (fun q hq hk => ⟨comp_mem hp hq, ?_⟩) fun a ha b hb => comp_inj hp ha hb)
  · rw [ren_comp h8 hq, hk, ← e, ← ren_comp h8 hp, ren_id hB fun i hi => by rw [comp_get hi]; exact h3 i hi]
  · rw [ren_comp h8 hq, hk, e]
/-- LAGRANGE: unlike ones, times those that leave it, are all. -/
theorem lagrange {L : List (List Nat)} (hn : L.Nodup) (hL : ∀ K, K ∈ L ↔ ∃ p, p ∈ ords n ∧ ren n p B = K) : fact n = L.length * aut n B := by
  rw [← ext_all n, ← fibres (O := ords n) (fun p => ren n p B) (aut n B) (fun _ => True) L hn fun K hK => ?_]
  · exact (cntP_all fun p hp => ⟨trivial, (hL _).2 ⟨p, hp, rfl⟩⟩).symm
  · obtain ⟨p, hp, e⟩ := (hL K).1 hK
    rw [← fibre_len hB hp e]
    exact cntP_congr fun a _ => by simp
theorem aut_pos : 0 < aut n B := cntP_pos (lst_mem (pla_id n)) (ren_id hB fun i hi => lst_get hi)
omit hB in
/-- Those of a list are told apart. -/
theorem uniq_list {β : Type} : ∀ L : List β, ∃ K : List β, K.Nodup ∧ ∀ b, b ∈ K ↔ b ∈ L := fun L => by
  classical
  induction L with
  | nil => exact ⟨[], List.nodup_nil, fun _ => Iff.rfl⟩
  | cons a L ih =>
    obtain ⟨K, h1, h2⟩ := ih
    by_cases h : a ∈ K
    · refine ⟨K, h1, fun b => ?_⟩
      rw [List.mem_cons, h2]
      exact ⟨.inr, fun z => z.elim (fun e => by rw [e, ← h2]; exact h) id⟩
    · exact ⟨a :: K, List.nodup_cons.2 ⟨h, h1⟩, fun b => by rw [List.mem_cons, List.mem_cons, h2]⟩
theorem lagrange_dvd : fact n % aut n B = 0 := by
  obtain ⟨L, h1, h2⟩ := uniq_list ((ords n).map fun p => ren n p B)
  rw [lagrange hB h1 fun K => by rw [h2, List.mem_map]]
  exact Nat.mul_mod_left _ _
theorem aut_ren {p0 : List Nat} (hp : p0 ∈ ords n) : aut n (ren n p0 B) = aut n B := by
  have h8 := hB.m8
  obtain ⟨τ, h1, h2, h3⟩ := inv_ex hp
  have e : ren n τ (ren n p0 B) = B := by rw [← ren_comp h8 hp, ren_id hB fun i hi => by rw [comp_get hi]; exact h3 i hi]
  have hτ : ∀ q, q ∈ ords n → ren n q B = ren n (comp n q τ) (ren n p0 B) := fun q hq => by rw [ren_comp h8 h1, e]
  rw [← fibre_len hB hp rfl]
  show cntP (ords n) (fun p => ren n p (ren n p0 B) = ren n p0 B) = cntP (ords n) fun p => ren n p B = ren n p0 B
  have ci : ∀ {σ : List Nat}, σ ∈ ords n → ∀ a, a ∈ ords n → ∀ b, b ∈ ords n → comp n a σ = comp n b σ → a = b := fun {σ} hσ a ha b hb e => by
    obtain ⟨ρ, r1, r2, r3⟩ := inv_ex hσ
    refine ords_ext ha hb fun i hi => ?_
    have h : pf (comp n a σ) (pf ρ i) = pf (comp n b σ) (pf ρ i) := by rw [e]
    have hl := (ords_pla r1).lt i hi
    rwa [comp_get hl, comp_get hl, r2 i hi] at h
  refine Nat.le_antisymm (cntP_inj (ext_nodup n n) (fun q => comp n q p0) (fun q hq hk => ⟨comp_mem hq hp, by rw [ren_comp h8 hp, hk]⟩) fun a ha b hb => ci hp a ha b hb) (cntP_inj (ext_nodup n n) (fun q => comp n q τ) (fun q hq hk => ⟨comp_mem hq h1, by rw [← hτ q hq, hk]⟩) fun a ha b hb => ci h1 a ha b hb)
/-- Where an element can go. -/
def orb (n : Nat) (B : List Nat) (i k : Nat) : Prop := ∃ p, p ∈ ords n ∧ ren n p B = B ∧ pf p i = k
theorem orb_fibre {i k : Nat} (hi : i < n) (h : orb n B i k) : cntP (ords n) (fun p => ren n p B = B ∧ pf p i = k) = cntP (ords n) (fun p => ren n p B = B ∧ pf p i = i) := by
  have h8 := hB.m8
  obtain ⟨p0, hp, e, ek⟩ := h
  obtain ⟨τ, h1, h2, h3⟩ := inv_ex hp
  have e' : ren n τ B = B := by
    have : ren n τ (ren n p0 B) = B := by rw [← ren_comp h8 hp, ren_id hB fun i hi => by rw [comp_get hi]; exact h3 i hi]
    rwa [e] at this
  refine Nat.le_antisymm (cntP_inj (ext_nodup n n) (comp n τ) (fun q hq hk => ⟨comp_mem h1 hq, ?_, ?_⟩) fun a ha b hb => comp_inj h1 ha hb) (cntP_inj (ext_nodup n n) (comp n p0) (fun q hq hk => ⟨comp_mem hp hq, ?_, ?_⟩) fun a ha b hb => comp_inj hp ha hb)
  · rw [ren_comp h8 hq, hk.1, e']
  · rw [comp_get hi, hk.2, ← ek]; exact h3 i hi
  · rw [ren_comp h8 hq, hk.1, e]
  · rw [comp_get hi, hk.2, ek]
theorem orb_dvd {i : Nat} (hi : i < n) {L : List Nat} (hn : L.Nodup) (hL : ∀ k, k ∈ L ↔ orb n B i k) : aut n B % L.length = 0 := by
  have := fibres (O := ords n) (fun p => pf p i) (cntP (ords n) (fun p => ren n p B = B ∧ pf p i = i)) (fun p => ren n p B = B) L hn fun k hk => orb_fibre hB hi ((hL k).1 hk)
  have e : aut n B = L.length * cntP (ords n) (fun p => ren n p B = B ∧ pf p i = i) := by
    rw [← this]
    exact cntP_congr fun p hp => ⟨fun h => ⟨h, (hL _).2 ⟨p, hp, h, rfl⟩⟩, fun h => h.1⟩
  rw [e]; exact Nat.mul_mod_right _ _
theorem orb_refl (i : Nat) (hi : i < n) : orb n B i i := ⟨lst n id, lst_mem (pla_id n), ren_id hB fun j hj => lst_get hj, lst_get hi⟩
theorem orb_trans {i j k : Nat} (hi : i < n) (h1 : orb n B i j) (h2 : orb n B j k) : orb n B i k := by
  obtain ⟨p, a1, a2, a3⟩ := h1
  obtain ⟨q, b1, b2, b3⟩ := h2
  exact ⟨comp n q p, comp_mem b1 a1, by rw [ren_comp hB.m8 a1, a2, b2], by rw [comp_get hi, a3, b3]⟩
theorem orb_symm {i j : Nat} (hi : i < n) (h1 : orb n B i j) : orb n B j i := by
  obtain ⟨p, a1, a2, a3⟩ := h1
  obtain ⟨τ, h1, h2, h3⟩ := inv_ex a1
  refine ⟨τ, h1, ?_, by rw [← a3]; exact h3 i hi⟩
  have : ren n τ (ren n p B) = B := by rw [← ren_comp hB.m8 a1, ren_id hB fun i hi => by rw [comp_get hi]; exact h3 i hi]
  rwa [a2] at this
end
end Go.SH
