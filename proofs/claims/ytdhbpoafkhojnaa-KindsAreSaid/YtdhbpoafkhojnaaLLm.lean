/-
  Laminar families: what kinds.Laminar gives is a matroid. Conditions: none.
-/
import Derived.Test.YtdhbpoafkhojnaaLHk
import Derived.Test.YtdhbpoafkhojnaaLRm
import Derived.Test.YtdhbpoafkhojnaaSp
set_option linter.unusedSimpArgs false
set_option linter.unusedVariables false
namespace Go.SH
open Go Go.AX

def Lam (a b : Nat) : Prop := a &&& b = 0 ∨ Inc a b ∨ Inc b a
theorem Lam.symm {a b : Nat} (h : Lam a b) : Lam b a := by
  rcases h with h | h | h
  · exact .inl (by rw [Nat.and_comm]; exact h)
  · exact .inr (.inr h)
  · exact .inr (.inl h)
/-- The union of some sets. -/
def uni : List Nat → Nat
  | [] => 0
  | a :: l => a ||| uni l
theorem uni_bit {l : List Nat} {x : Nat} : (uni l).testBit x = true ↔ ∃ a, a ∈ l ∧ a.testBit x = true := by
  induction l with
  | nil => simp [uni]
  | cons a l ih =>
    rw [uni, Nat.testBit_or, Bool.or_eq_true, ih]
    constructor
    · rintro (h | ⟨b, h1, h2⟩)
      · exact ⟨a, by simp, h⟩
      · exact ⟨b, by simp [h1], h2⟩
    · rintro ⟨b, h1, h2⟩
      rcases List.mem_cons.1 h1 with rfl | h1
      · exact .inl h2
      · exact .inr ⟨b, h1, h2⟩
theorem eq_of_bits {a b : Nat} (h : ∀ x, a.testBit x = true ↔ b.testBit x = true) : a = b := bx fun j => Bool.eq_iff_iff.2 (h j)
theorem lam_union {n I J : Nat} : ∀ (d : Nat) (S : List Nat), S.length ≤ d → (∀ a, a ∈ S → ∀ b, b ∈ S → Lam a b) → (∀ a, a ∈ S → cnt n (a &&& J) ≤ cnt n (a &&& I)) → cnt n (uni S &&& J) ≤ cnt n (uni S &&& I) := by
  intro d
  induction d with
  | zero =>
    intro S hl _ _
    have : S = [] := List.eq_nil_of_length_eq_zero (by omega)
    subst this
    simp [uni]
  | succ d ih =>
    intro S hl h1 h2
    cases S with
    | nil => simp [uni]
    | cons A R =>
      have hR1 : ∀ a, a ∈ R → ∀ b, b ∈ R → Lam a b := fun a ha b hb => h1 a (List.mem_cons_of_mem _ ha) b (List.mem_cons_of_mem _ hb)
      have hR2 : ∀ a, a ∈ R → cnt n (a &&& J) ≤ cnt n (a &&& I) := fun a ha => h2 a (List.mem_cons_of_mem _ ha)
      simp only [List.length_cons] at hl
      by_cases q : ∃ B, B ∈ R ∧ Inc A B
      · obtain ⟨B, b1, b2⟩ := q
        have e : uni (A :: R) = uni R := eq_of_bits fun x => by
          rw [uni_bit, uni_bit]
          constructor
          · rintro ⟨c, c1, c2⟩
            rcases List.mem_cons.1 c1 with rfl | c1
            · exact ⟨B, b1, b2 x c2⟩
            · exact ⟨c, c1, c2⟩
          · rintro ⟨c, c1, c2⟩
            exact ⟨c, List.mem_cons_of_mem _ c1, c2⟩
        rw [e]
        exact ih R (by omega) hR1 hR2
      · have hno : ∀ B, B ∈ R → ¬ Inc A B := fun B hB hI => q ⟨B, hB, hI⟩
        have hR' : ∀ b, b ∈ R.filter (fun b => decide (A &&& b = 0)) ↔ b ∈ R ∧ A &&& b = 0 := fun b => by rw [List.mem_filter, decide_eq_true_eq]
        have hlen := List.length_filter_le (fun b => decide (A &&& b = 0)) R
        generalize R.filter (fun b => decide (A &&& b = 0)) = R' at hR' hlen
        have e : uni (A :: R) = A ||| uni R' := eq_of_bits fun x => by
          rw [Nat.testBit_or, Bool.or_eq_true, uni_bit, uni_bit]
          constructor
          · rintro ⟨c, c1, c2⟩
            rcases List.mem_cons.1 c1 with rfl | c1
            · exact .inl c2
            · rcases h1 A List.mem_cons_self c (List.mem_cons_of_mem _ c1) with h | h | h
              · exact .inr ⟨c, (hR' c).2 ⟨c1, h⟩, c2⟩
              · exact absurd h (hno c c1)
              · exact .inl (h x c2)
          · rintro (h | ⟨c, c1, c2⟩)
            · exact ⟨A, List.mem_cons_self, h⟩
            · exact ⟨c, List.mem_cons_of_mem _ ((hR' c).1 c1).1, c2⟩
        have hz : ∀ x, A.testBit x = true → (uni R').testBit x = false := fun x hx => by
          cases hu : (uni R').testBit x with
          | false => rfl
          | true =>
            obtain ⟨c, c1, c2⟩ := uni_bit.1 hu
            have := (disj_iff _ _).1 ((hR' c).1 c1).2 x hx
            rw [c2] at this; cases this
        have part : ∀ X, cnt n (uni (A :: R) &&& X) = cnt n (A &&& X) + cnt n (uni R' &&& X) := fun X => by
          rw [e, Nat.and_or_distrib_right]
          refine cnt_disj ((disj_iff _ _).2 fun x hx => ?_)
          rw [Nat.testBit_and, Bool.and_eq_true] at hx
          rw [Nat.testBit_and, hz x hx.1]; rfl
        rw [part, part]
        have := h2 A List.mem_cons_self
        have := ih R' (by omega) (fun a ha b hb => hR1 a ((hR' a).1 ha).1 b ((hR' b).1 hb).1) fun a ha => hR2 a ((hR' a).1 ha).1
        omega
/-- No class has more than it may. -/
def Few (n : Nat) (L : List Nat) (M : List Int) (s : Nat) : Prop := ∀ k, k < L.length → ((cnt n (L.getD k 0 &&& s) : Nat) : Int) ≤ M.getD k 0
theorem Few.sub {n : Nat} {L : List Nat} {M : List Int} {s t : Nat} (h : Inc s t) (ht : Few n L M t) : Few n L M s := fun k hk => by
  have := ht k hk
  have := cnt_le_of_inc (m := n) (a := L.getD k 0 &&& s) (b := L.getD k 0 &&& t) fun i hi => by
    rw [Nat.testBit_and, Bool.and_eq_true] at hi ⊢
    exact ⟨hi.1, h i hi.2⟩
  omega
theorem few_aug {n : Nat} {L : List Nat} {M : List Int} (hL : ∀ a, a ∈ L → ∀ b, b ∈ L → Lam a b) {I J : Nat} (hI : I < 2 ^ n) (hJ : J < 2 ^ n) (h1 : Few n L M I) (h2 : Few n L M J) (hc : cnt n I < cnt n J) :
    ∃ e, J.testBit e = true ∧ I.testBit e = false ∧ Few n L M (I ||| 2 ^ e) := by
  apply Classical.byContradiction
  intro hno
  have hS : ∀ a, a ∈ L.filter (fun a => decide (cnt n (a &&& J) ≤ cnt n (a &&& I))) ↔ a ∈ L ∧ cnt n (a &&& J) ≤ cnt n (a &&& I) := fun a => by rw [List.mem_filter, decide_eq_true_eq]
  generalize L.filter (fun a => decide (cnt n (a &&& J) ≤ cnt n (a &&& I))) = S at hS
  have hu := lam_union (n := n) (I := I) (J := J) S.length S (Nat.le_refl _) (fun a ha b hb => hL a ((hS a).1 ha).1 b ((hS b).1 hb).1) fun a ha => ((hS a).1 ha).2
  have hcov : ∀ e, J.testBit e = true → I.testBit e = false → (uni S).testBit e = true := fun e e1 e2 => by
    have : ¬ Few n L M (I ||| 2 ^ e) := fun q => hno ⟨e, e1, e2, q⟩
    have : ∃ k, k < L.length ∧ ¬ ((cnt n (L.getD k 0 &&& (I ||| 2 ^ e)) : Nat) : Int) ≤ M.getD k 0 := by
      apply Classical.byContradiction
      intro q
      exact this fun k hk => Classical.byContradiction fun w => q ⟨k, hk, w⟩
    obtain ⟨k, hk, k1⟩ := this
    have k2 := h1 k hk
    have k3 := h2 k hk
    have hen := bit_lt hJ e1
    rw [Nat.and_or_distrib_left] at k1
    have hek : (L.getD k 0).testBit e = true := by
      cases q : (L.getD k 0).testBit e with
      | true => rfl
      | false =>
        have : L.getD k 0 &&& 2 ^ e = 0 := (disj_iff _ _).2 fun i hi => by
          rw [testBit_pow]
          exact decide_eq_false fun w => by subst w; rw [q] at hi; cases hi
        rw [this, Nat.or_zero] at k1
        exact absurd k2 k1
    have e3 : L.getD k 0 &&& 2 ^ e = 2 ^ e := by rw [Nat.and_comm]; exact inc_and_self (inc_pow hek)
    rw [e3, cnt_add hen (by rw [Nat.testBit_and, e2, Bool.and_false])] at k1
    have hm : L.getD k 0 ∈ L := by
      rw [List.getD_eq_getElem?_getD, List.getElem?_eq_getElem hk]; exact List.getElem_mem hk
    exact uni_bit.2 ⟨_, (hS _).2 ⟨hm, by omega⟩, hek⟩
  have s1 := cnt_split n I (uni S)
  have s2 := cnt_split n J (uni S)
  have s3 := cnt_le_of_inc (m := n) (a := dif J (uni S)) (b := dif I (uni S)) fun i hi => by
    rw [testBit_dif, Bool.and_eq_true, Bool.not_eq_true'] at hi ⊢
    refine ⟨?_, hi.2⟩
    cases q : I.testBit i with
    | true => rfl
    | false => have := hcov i hi.1 q; rw [hi.2] at this; cases this
  rw [Nat.and_comm] at s1 s2
  omega
theorem Laminar1_spec {n : Nat} {L : List Nat} {M : List Int} (h : Fam n L) (hM : M.length = L.length) {s : Nat} (hs : s < 2 ^ n) : Gets (kinds_Laminar_1 (s : Int) (cs L) M) (fun b => b = true ↔ Few n L M s) := by
  have h8 := h.m8
  have hl := h.len
  have h256 := pow_le8 h8
  unfold kinds_Laminar_1
  refine gBind (R := fun z => match z with | .inl _ => Few n L M s | .inr b => b = false ∧ ¬ Few n L M s) (gFor L.length (fun k v => v = (k : Int) ∧ ∀ j, j < k → ((cnt n (L.getD j 0 &&& s) : Nat) : Int) ≤ M.getD j 0) (Nat.zero_le _) ⟨rfl, none_all⟩ ?_) ?_
  · rintro k _ hk ⟨rfl, hb⟩
    simp only [toNat_nat, cs_len, cs_get, and_nat]
    refine gIte (fun h1 => gChk (by omega) ?_) fun h1 => gSome fun j hj => hb j (by omega)
    have hk' : k < L.length := by omega
    have hlt : L.getD k 0 &&& s < 2 ^ n := Nat.lt_of_le_of_lt Nat.and_le_right hs
    rw [kinds_size_nat (by omega), size_of_lt hlt h8]
    refine gBind (Gets.of_eq rfl) ?_
    rintro _ rfl
    refine gChk (by omega) (gIte (fun q => gSome ⟨rfl, fun w => ?_⟩) fun q => gSome ⟨hk', by simp, step_all hb (by omega)⟩)
    have := w k hk'
    omega
  · rintro (u | b) hz
    · exact gSome ⟨fun _ => hz, fun _ => rfl⟩
    · exact gSome ⟨fun w => (by rw [hz.1] at w; cases w), fun w => absurd w hz.2⟩
theorem Laminar_made (n : Int) (l M : List Int) (hl : l.length ≤ 9223372036854775807) : Gets (kinds_Laminar n l M) Made := by
  unfold kinds_Laminar
  refine gBind (sets_Family_spec n l hl) fun y hy => gIte (fun h => gSome (.inr ⟨h, rfl, rfl⟩)) fun h => ?_
  obtain ⟨m, L, rfl, rfl, hF⟩ : ∃ m L, n = ((m : Nat) : Int) ∧ l = cs L ∧ Fam m L := by
    rcases hy with ⟨_, q⟩ | ⟨q, _⟩
    · exact q
    · omega
  have h8 := hF.m8
  have hlen := hF.len
  have h256 := pow_le8 h8
  refine gIte (fun q => gSome (.inr ⟨by decide, rfl, rfl⟩)) fun q => ?_
  rw [cs_len] at q
  have hM : M.length = L.length := by omega
  have lam : ∀ {a b : Nat}, ¬ (((((a &&& b : Nat) : Int)) ≠ 0 ∧ (((a &&& b : Nat) : Int)) ≠ (a : Int)) ∧ (((a &&& b : Nat) : Int)) ≠ (b : Int)) → Lam a b := fun {a b} w => by
    by_cases c1 : a &&& b = 0
    · exact .inl c1
    · by_cases c2 : a &&& b = a
      · exact .inr (.inl ((sub_iff_and a b).1 c2))
      · refine .inr (.inr ((sub_iff_and b a).1 ?_))
        rw [Nat.and_comm]
        apply Classical.byContradiction
        intro c3
        exact w ⟨⟨by omega, by omega⟩, by omega⟩
  refine gBind (R := fun z => match z with | .inl _ => ∀ k, k < L.length → 0 ≤ M.getD k 0 ∧ ∀ j, j < k → Lam (L.getD k 0) (L.getD j 0) | .inr r => Made r) (gFor L.length (fun k v => v = (k : Int) ∧ ∀ i, i < k → 0 ≤ M.getD i 0 ∧ ∀ j, j < i → Lam (L.getD i 0) (L.getD j 0)) (Nat.zero_le _) ⟨rfl, none_all⟩ ?_) ?_
  · rintro k _ hk ⟨rfl, hb⟩
    simp only [toNat_nat, cs_len, cs_get]
    refine gIte (fun h1 => gChk (by omega) (gChk (by omega) (gIte (fun q => gSome (.inr ⟨by decide, rfl, rfl⟩)) fun q0 => gChk (by omega) ?_))) fun h1 => gSome fun i hi => hb i (by omega)
    have hk' : k < L.length := by omega
    have tk : ∀ j, j < k → ((cs L).take k).getD j 0 = ((L.getD j 0 : Nat) : Int) := fun j hj => by
      rw [List.getD_eq_getElem?_getD, List.getElem?_take_of_lt hj, ← List.getD_eq_getElem?_getD, cs_get]
    have tl : ((cs L).take k).length = k := by rw [List.length_take, cs_len]; omega
    rw [tl]
    refine gBind (R := fun z => match z with | .inl _ => ∀ j, j < k → Lam (L.getD k 0) (L.getD j 0) | .inr r => Made r) (gFor k (fun i v => v = (i : Int) ∧ ∀ j, j < i → Lam (L.getD k 0) (L.getD j 0)) (Nat.zero_le _) ⟨rfl, none_all⟩ ?_) ?_
    · rintro i _ hi ⟨rfl, hb2⟩
      simp only [toNat_nat]
      refine gIte (fun h2 => ?_) fun h2 => gSome fun j hj => hb2 j (by omega)
      have hi' : i < k := by omega
      simp only [tk i hi', and_nat]
      exact gChk (by omega) (gIte (fun q => gSome (.inr ⟨by decide, rfl, rfl⟩)) fun q => gSome ⟨hi', by simp, step_all hb2 (lam q)⟩)
    · rintro (u | r) hz
      · exact gSome ⟨hk', by simp, step_all hb ⟨by omega, hz⟩⟩
      · exact gSome hz
  · rintro (u | r) hz
    · have hlam : ∀ a, a ∈ L → ∀ b, b ∈ L → Lam a b := fun a ha b hb => by
        obtain ⟨i, hi, rfl⟩ := mem_getD.1 ha
        obtain ⟨j, hj, rfl⟩ := mem_getD.1 hb
        rcases Nat.lt_trichotomy i j with c | c | c
        · exact ((hz j hj).2 i c).symm
        · subst c; exact .inr (.inl fun x hx => hx)
        · exact (hz i hi).2 j c
      have h0 : Few m L M 0 := fun k hk => by
        rw [Nat.and_zero, cnt_zero]
        exact (hz k hk).1
      refine gBind (greatest_spec (p := Few m L M) h8 (fun s hs => Laminar1_spec hF hM hs) h0) ?_
      rintro _ ⟨K, rfl, hFK, hK⟩
      exact gSome (.inl ⟨rfl, (aug_mat h8 hFK hK h0 (fun s t a b => Few.sub a b) fun I J hI hJ a b c => few_aug hlam hI hJ a b c).check⟩)
    · exact gSome hz
end Go.SH
