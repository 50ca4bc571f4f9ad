/-
  LEHMAN: the joiner wins though the cutter begins just if there are two trees of the same vertices. Conditions: none.
-/
import Derived.Test.YthofnmjokdjppaaLGt
import Derived.Test.YthofnmjokdjppaaLGo
import Derived.Test.YthofnmjokdjppaaLSt
set_option linter.unusedSimpArgs false
set_option linter.unusedVariables false
namespace Go.SH
open Go Go.AX

theorem RkF.clX {R : Nat → Nat} (h : RkF R) (X : Nat) {M : Nat} : ∀ B, B < 2 ^ M → (∀ f, B.testBit f = true → R (X ||| 2 ^ f) = R X) → R (X ||| B) = R X := by
  refine set_ind (m := M) _ ?_ ?_
  · intro _; rw [Nat.or_zero]
  · intro s i hs hi hb ih hall
    have h1 := ih fun f hf => hall f (by rw [Nat.testBit_or, hf]; rfl)
    have h2 := hall i (by rw [Nat.testBit_or, testBit_pow]; simp)
    have h3 := h.clM (Y := X ||| s) (2 ^ i) (fun j hj => by rw [Nat.testBit_or, hj]; rfl) h2
    rw [← Nat.or_assoc, h3, h1]

theorem Win_congr {H H' : Nat → Prop} {m : Nat} (h : ∀ X, X < 2 ^ m → (H X ↔ H' X)) : ∀ (k J C : Nat) (w : Bool), J < 2 ^ m → (Win H m k J C w ↔ Win H' m k J C w) := by
  intro k
  induction k with
  | zero => intro J C w hJ; exact h J hJ
  | succ k ih =>
    intro J C w hJ
    have hall : dif (2 ^ m - 1) C < 2 ^ m := dif_lt (by have := Nat.two_pow_pos m; omega)
    cases w with
    | true =>
      show (H J ∨ _) ↔ (H' J ∨ _)
      rw [h J hJ, h _ hall]
      refine or_congr Iff.rfl (and_congr Iff.rfl (exists_congr fun i => ?_))
      constructor
      · exact fun ⟨q1, q2⟩ => ⟨q1, (ih _ _ _ (or_lt hJ (pow_lt (bit_lt (Fr_lt _ _ _) q1)))).1 q2⟩
      · exact fun ⟨q1, q2⟩ => ⟨q1, (ih _ _ _ (or_lt hJ (pow_lt (bit_lt (Fr_lt _ _ _) q1)))).2 q2⟩
    | false =>
      show (H J ∨ _) ↔ (H' J ∨ _)
      rw [h J hJ, h _ hall]
      refine or_congr Iff.rfl (and_congr Iff.rfl (forall_congr' fun i => ?_))
      exact imp_congr Iff.rfl (ih _ _ _ hJ)

section
variable {N : Nat} {E : List (Int × Int)} {s t : Nat}

/-- One edge more, between the two. -/
def ext (E : List (Int × Int)) (s t : Nat) : List (Int × Int) := E ++ [((s : Int), (t : Int))]
theorem ext_len : (ext E s t).length = E.length + 1 := by simp [ext]
theorem ext_A {k : Nat} (hk : k < E.length) : hA (ext E s t) k = hA E k ∧ hB (ext E s t) k = hB E k := by
  unfold hA hB ext
  rw [List.getD_eq_getElem?_getD, List.getElem?_append_left hk, ← List.getD_eq_getElem?_getD]
  exact ⟨rfl, rfl⟩
theorem ext_last : hA (ext E s t) E.length = s ∧ hB (ext E s t) E.length = t := by
  unfold hA hB ext
  rw [List.getD_eq_getElem?_getD, List.getElem?_append_right (Nat.le_refl _)]
  simp
theorem Gra.ends' (h : Gra N E) : EndsLt N E := fun k hk => ⟨(h.eA hk).2, (h.eB hk).2⟩
theorem ext_ends (h : EndsLt N E) (hs : s < N) (ht : t < N) : EndsLt N (ext E s t) := fun k hk => by
  rw [ext_len] at hk
  by_cases c : k < E.length
  · rw [(ext_A c).1, (ext_A c).2]; exact h k c
  · have : k = E.length := by omega
    subst this
    rw [ext_last.1, ext_last.2]; exact ⟨hs, ht⟩
theorem ext_con {S u v : Nat} (hS : S < 2 ^ E.length) : Con (ext E s t) S u v ↔ Con E S u v := by
  constructor
  · intro h
    induction h with
    | refl => exact .refl _
    | tail _ a ih =>
      obtain ⟨k, h1, h2, h3⟩ := a
      have hk := bit_lt hS h2
      rw [(ext_A hk).1, (ext_A hk).2] at h3
      exact .tail ih ⟨k, hk, h2, h3⟩
  · intro h
    induction h with
    | refl => exact .refl _
    | tail _ a ih =>
      obtain ⟨k, h1, h2, h3⟩ := a
      exact .tail ih ⟨k, by rw [ext_len]; omega, h2, by rw [(ext_A h1).1, (ext_A h1).2]; exact h3⟩
theorem ext_HR (h : EndsLt N E) (hs : s < N) (ht : t < N) (X : Nat) (hX : X < 2 ^ E.length) : HR (grk N (ext E s t)) E.length X ↔ Hang N E s t X := by
  rw [Hang_iff h hs, ← ext_con (s := s) (t := t) hX]
  have := grk_cl (ext_ends h hs ht) (S := X) (k := E.length) (by rw [ext_len]; omega)
  rw [ext_last.1, ext_last.2] at this
  exact this

/-- The edges of a set that lie at some vertices. -/
def atV (E : List (Int × Int)) (V a : Nat) : Nat := mkset E.length fun i => a.testBit i && V.testBit (hA E i)
theorem atV_bit (V a i : Nat) : (atV E V a).testBit i = (decide (i < E.length) && (a.testBit i && V.testBit (hA E i))) := mkset_bit _ _ _
theorem atV_lt (V a : Nat) : atV E V a < 2 ^ E.length := mkset_lt _ _
theorem atV_con {V a l : Nat} (hV : ∀ v, V.testBit v = true ↔ Con E a l v) {v : Nat} (h : Con E a l v) : Con E (atV E V a) l v := by
  have key : ∀ {u : Nat}, Con E a l u → Con E (atV E V a) l u := fun {u} hu => by
    induction hu with
    | refl => exact .refl _
    | @tail x w hx a' ih =>
      obtain ⟨k, h1, h2, h3⟩ := a'
      refine .tail ih ⟨k, h1, ?_, h3⟩
      have hVA : V.testBit (hA E k) = true := by
        rcases h3 with ⟨q, _⟩ | ⟨q1, q2⟩
        · rw [← q]; exact (hV _).2 hx
        · rw [← q2]; exact (hV _).2 (hx.tail ⟨k, h1, h2, .inr ⟨q1, q2⟩⟩)
      rw [atV_bit, h2, hVA]
      simp [h1]
  exact key h

theorem Fr_zero {m i : Nat} (h : i < m) : (Fr m 0 0).testBit i = true := by rw [testBit_Fr]; simp [h]

theorem win_of_trees (hG : Gra N E) (hs : s < N) (ht : t < N) {a b V l : Nat} (hl : l < N) (hab : ∀ i, a.testBit i = true → b.testBit i = false) (hVs : V.testBit s = true) (hVt : V.testBit t = true)
    (hVa : ∀ v, V.testBit v = true ↔ Con E a l v) (hVb : ∀ v, V.testBit v = true ↔ Con E b l v) : Wn N E s t 0 0 false := by
  have hE := hG.ends'
  have hE' := ext_ends hE hs ht
  refine (Win_congr (ext_HR hE hs ht) _ 0 0 false (Nat.two_pow_pos _)).1 ?_
  have hR := grkF hE'
  have span : ∀ {a b : Nat}, (∀ v, V.testBit v = true ↔ Con E a l v) → (∀ v, V.testBit v = true ↔ Con E b l v) → grk N (ext E s t) (atV E V a) = grk N (ext E s t) (atV E V a ||| atV E V b ||| 2 ^ E.length) := fun {a b} hVa hVb => by
    have hlt : atV E V a ||| atV E V b ||| 2 ^ E.length < 2 ^ (E.length + 1) := by
      refine or_lt (or_lt ?_ ?_) (pow_lt (by omega))
      · exact Nat.lt_of_lt_of_le (atV_lt _ _) (Nat.pow_le_pow_right (by omega) (by omega))
      · exact Nat.lt_of_lt_of_le (atV_lt _ _) (Nat.pow_le_pow_right (by omega) (by omega))
    have := hR.clX (atV E V a) _ hlt fun f hf => ?_
    · rw [show atV E V a ||| (atV E V a ||| atV E V b ||| 2 ^ E.length) = atV E V a ||| atV E V b ||| 2 ^ E.length from bx fun j => by
        simp only [Nat.testBit_or]; cases (atV E V a).testBit j <;> rfl] at this
      exact this.symm
    · have two : ∀ {x y : Nat}, V.testBit x = true → V.testBit y = true → Con (ext E s t) (atV E V a) x y := fun {x y} hx hy => by
        rw [ext_con (atV_lt _ _)]
        exact (atV_con hVa ((hVa x).1 hx)).symm.trans (atV_con hVa ((hVa y).1 hy))
      rw [Nat.testBit_or, Nat.testBit_or, Bool.or_eq_true, Bool.or_eq_true] at hf
      have edge : ∀ {c : Nat}, (∀ v, V.testBit v = true ↔ Con E c l v) → (atV E V c).testBit f = true → grk N (ext E s t) (atV E V a ||| 2 ^ f) = grk N (ext E s t) (atV E V a) := fun {c} hVc hf => by
        rw [atV_bit, Bool.and_eq_true, Bool.and_eq_true, decide_eq_true_eq] at hf
        obtain ⟨h1, h2, h3⟩ := hf
        rw [grk_cl hE' (by rw [ext_len]; omega), (ext_A h1).1, (ext_A h1).2]
        exact two h3 ((hVc _).2 (((hVc _).1 h3).trans (.edge h1 h2)))
      rcases hf with (hf | hf) | hf
      · exact edge hVa hf
      · exact edge hVb hf
      · rw [testBit_pow, decide_eq_true_eq] at hf
        subst hf
        rw [grk_cl hE' (by rw [ext_len]; omega), ext_last.1, ext_last.2]
        exact two hVs hVt
  refine leh1 hR hG.e8 _ 0 0 (atV E V a) (atV E V b) rfl (Nat.two_pow_pos _) (fun i hi => by rw [Nat.zero_testBit] at hi; cases hi) ⟨fun i hi => Fr_zero (bit_lt (atV_lt _ _) hi), fun i hi => Fr_zero (bit_lt (atV_lt _ _) hi), fun i hi => ?_, ?_, ?_⟩
  · rw [atV_bit, Bool.and_eq_true, Bool.and_eq_true] at hi
    rw [atV_bit, hab i hi.2.1]; simp
  · simp only [Nat.or_zero]; exact span hVa hVb
  · simp only [Nat.or_zero]
    rw [span hVb hVa]
    rw [Nat.or_comm (atV E V b)]

theorem num_cnt (V : Nat) : ∀ n, num (fun v => V.testBit v = false) n + cnt n V = n
  | 0 => rfl
  | n + 1 => by
    have := num_cnt V n
    unfold num
    simp only [cnt]
    cases c : V.testBit n <;> simp <;> omega

/-- A tree, out of what hangs together. -/
theorem tree_in (hG : Gra N E) (hs : s < N) {A V : Nat} (hA' : A < 2 ^ E.length) (hV : ∀ v, V.testBit v = true ↔ Con E A s v) : ∃ a, Inc a A ∧ (∀ v, V.testBit v = true ↔ Con E a s v) ∧ cnt 8 a + 1 = cnt N V ∧ ∀ k, a.testBit k = true → V.testBit (hA E k) = true := by
  have hE := hG.ends'
  have hR := grkF hE
  have hlt := atV_lt (E := E) V A
  have h8 : atV E V A < 2 ^ 8 := Nat.lt_of_lt_of_le hlt (Nat.pow_le_pow_right (by omega) hG.e8)
  obtain ⟨I, i1, i2, i3⟩ := hR.basis h8
  have hsub : Inc (atV E V A) A := fun i hi => by
    rw [atV_bit, Bool.and_eq_true, Bool.and_eq_true] at hi; exact hi.2.1
  have conI : ∀ {u v : Nat}, Con E (atV E V A) u v → Con E I u v := fun {u v} h => by
    induction h with
    | refl => exact .refl _
    | tail _ a ih =>
      obtain ⟨k, h1, h2, h3⟩ := a
      have m1 := hR.mono I (I ||| 2 ^ k) (inc_or_l _ _)
      have m2 := hR.mono (I ||| 2 ^ k) (atV E V A) (inc_or i1 fun i hi => by
        rw [testBit_pow, decide_eq_true_eq] at hi; subst hi; exact h2)
      have hc := (grk_cl hE h1).1 (show grk N E (I ||| 2 ^ k) = grk N E I by omega)
      rcases h3 with ⟨rfl, rfl⟩ | ⟨rfl, rfl⟩
      · exact ih.trans hc
      · exact ih.trans hc.symm
  have hV2 : ∀ v, V.testBit v = true ↔ Con E (atV E V A) s v := fun v => ⟨fun h => atV_con hV ((hV v).1 h), fun h => (hV v).2 (h.mono hsub)⟩
  refine ⟨I, i1.trans hsub, fun v => ⟨fun h => conI ((hV2 v).1 h), fun h => (hV2 v).2 (h.mono i1)⟩, ?_, fun k hk => by
    have := i1 k hk
    rw [atV_bit, Bool.and_eq_true, Bool.and_eq_true] at this; exact this.2.2⟩
  obtain ⟨l, l1, l2, l3⟩ := rep_ex (E := E) (atV E V A) s
  have hVl := (hV2 l).2 l1
  have hc : comps N E (atV E V A) = num (fun v => V.testBit v = false ∨ v = l) N := by
    refine num_congr N fun v hv => ⟨fun h => ?_, fun h => ?_⟩
    · cases c : V.testBit v with
      | false => exact .inl rfl
      | true =>
        have hc := l1.symm.trans ((hV2 v).1 c)
        have h1 := h l hc.symm
        have h2 := l2 v hc
        exact .inr (by omega)
    · rcases h with h | rfl
      · intro u hu
        have hu' := hu.symm
        cases hu' with
        | refl => exact Nat.le_refl _
        | tail hx a =>
          exfalso
          obtain ⟨k, h1, h2, h3⟩ := a
          have hb := h2
          rw [atV_bit, Bool.and_eq_true, Bool.and_eq_true] at hb
          have hVB : V.testBit (hB E k) = true := (hV2 _).2 (((hV2 _).1 hb.2.2).trans (.edge h1 h2))
          rcases h3 with ⟨_, rfl⟩ | ⟨_, rfl⟩
          · rw [hVB] at h; cases h
          · rw [hb.2.2] at h; cases h
      · exact l2
  have h1 := num_remove (p := fun v => V.testBit v = false ∨ v = l) (q := fun v => V.testBit v = false) (a := l) N (by omega) (.inr rfl) fun v _ => by
    constructor
    · intro h; exact ⟨.inl h, by rintro rfl; rw [hVl] at h; cases h⟩
    · rintro ⟨h | h, hn⟩
      · exact h
      · exact absurd h hn
  have h2 := num_cnt V N
  have h3 : grk N E (atV E V A) = N - comps N E (atV E V A) := rfl
  have h4 : 1 ≤ cnt N V := by
    have hVN : V < 2 ^ N := lt_of_bits fun i hi => by
      cases c : V.testBit i with
      | false => rfl
      | true => have := ((hV i).1 c).lt hE hs; omega
    exact cnt_pos hVN hVl
  omega

open Classical in
theorem trees_of_win (hG : Gra N E) (hs : s < N) (ht : t < N) (h : Wn N E s t 0 0 false) : ∃ a b V, a < 2 ^ E.length ∧ b < 2 ^ E.length ∧ V < 2 ^ N ∧ (∀ i, a.testBit i = true → b.testBit i = false) ∧ V.testBit s = true ∧ V.testBit t = true ∧
    (∀ v, V.testBit v = true ↔ Con E a s v) ∧ (∀ v, V.testBit v = true ↔ Con E b s v) ∧ cnt 8 a + 1 = cnt N V ∧ cnt 8 b + 1 = cnt N V ∧ ∀ k, a.testBit k = true → V.testBit (hA E k) = true := by
  have hE := hG.ends'
  have hE' := ext_ends hE hs ht
  have hR := grkF hE'
  have hW := (Win_congr (ext_HR hE hs ht) _ 0 0 false (Nat.two_pow_pos _)).2 h
  obtain ⟨S, hS⟩ := leh2 hR hG.e8 _ 0 0 rfl (Nat.two_pow_pos _) (fun i hi => by rw [Nat.zero_testBit] at hi; cases hi) hW
  obtain ⟨A, B, hT⟩ := hS.two hR hG.e8 (Fr_lt _ _ _)
  have ra := hT.ra
  have rb := hT.rb
  simp only [Nat.or_zero] at ra rb
  have lt : ∀ {X : Nat}, Inc X (Fr E.length 0 0) → X < 2 ^ E.length := fun {X} hX => lt_of_bits fun i hi => by
    cases c : X.testBit i with
    | false => rfl
    | true => have := hX i c; rw [bit_ge (Fr_lt _ _ _) hi] at this; cases this
  have hAl := lt hT.a
  have hBl := lt hT.b
  -- all of both hangs on each
  have cl : ∀ {X f : Nat}, grk N (ext E s t) X = grk N (ext E s t) (A ||| B ||| 2 ^ E.length) → Inc X (A ||| B ||| 2 ^ E.length) → (A ||| B ||| 2 ^ E.length).testBit f = true → f < E.length + 1 → Con (ext E s t) X (hA (ext E s t) f) (hB (ext E s t) f) := fun {X f} h1 h2 h3 h4 => by
    have m1 := hR.mono X (X ||| 2 ^ f) (inc_or_l _ _)
    have m2 := hR.mono (X ||| 2 ^ f) (A ||| B ||| 2 ^ E.length) (inc_or h2 fun i hi => by
      rw [testBit_pow, decide_eq_true_eq] at hi; subst hi; exact h3)
    exact (grk_cl hE' (by rw [ext_len]; omega)).1 (by omega)
  have iA : Inc A (A ||| B ||| 2 ^ E.length) := (inc_or_l A B).trans (inc_or_l _ _)
  have iB : Inc B (A ||| B ||| 2 ^ E.length) := (inc_or_r A B).trans (inc_or_l _ _)
  have move : ∀ {X Y : Nat}, X < 2 ^ E.length → Y < 2 ^ E.length → Inc X (A ||| B ||| 2 ^ E.length) → Inc Y (A ||| B ||| 2 ^ E.length) → grk N (ext E s t) X = grk N (ext E s t) (A ||| B ||| 2 ^ E.length) → ∀ {u v : Nat}, Con E Y u v → Con E X u v := fun {X Y} hX hY iX iY h1 {u v} h => by
    induction h with
    | refl => exact .refl _
    | tail _ a ih =>
      obtain ⟨k, k1, k2, k3⟩ := a
      have hc := cl h1 iX (iY k k2) (by omega)
      rw [ext_con hX, (ext_A k1).1, (ext_A k1).2] at hc
      rcases k3 with ⟨rfl, rfl⟩ | ⟨rfl, rfl⟩
      · exact ih.trans hc
      · exact ih.trans hc.symm
  have hst : Con E A s t := by
    have hc := cl ra iA (f := E.length) (by rw [Nat.testBit_or, testBit_pow]; simp) (by omega)
    rw [ext_con hAl, ext_last.1, ext_last.2] at hc
    exact hc
  obtain ⟨V, hV⟩ : ∃ V : Nat, V = mkset N fun v => decide (Con E A s v) := ⟨_, rfl⟩
  have hVb : ∀ v, V.testBit v = true ↔ Con E A s v := fun v => by
    rw [hV, mkset_bit, Bool.and_eq_true, decide_eq_true_eq, decide_eq_true_eq]
    exact ⟨fun q => q.2, fun q => ⟨q.lt hE hs, q⟩⟩
  have hVb2 : ∀ v, V.testBit v = true ↔ Con E B s v := fun v => by
    rw [hVb]
    exact ⟨fun q => move hBl hAl iB iA rb q, fun q => move hAl hBl iA iB ra q⟩
  obtain ⟨a, a1, a2, a3, a4⟩ := tree_in hG hs hAl hVb
  obtain ⟨b, b1, b2, b3, _⟩ := tree_in hG hs hBl hVb2
  refine ⟨a, b, V, lt (a1.trans hT.a), lt (b1.trans hT.b), by rw [hV]; exact mkset_lt _ _, fun i hi => ?_, (hVb s).2 (.refl _), (hVb t).2 hst, a2, b2, a3, b3, a4⟩
  cases c : b.testBit i with
  | false => rfl
  | true =>
    have := hT.ab i (a1 i hi)
    rw [b1 i c] at this; cases this
end
end Go.SH
