/-
  What hangs below one each: its sets, its hooks; the statement ConvexHooks as a plain law. Conditions: the integers are those of 64 bits.
-/
import Derived.Test.YthmmjfjlnadojaaL5
set_option linter.unusedSimpArgs false
set_option linter.unusedVariables false
namespace Go.SH
open Go Go.AX

def hook (n : Nat) (p : Nat → Nat) (i : Nat) : Int := 1 + sumN n fun j => if h : (p j = i ∧ i < j) ∧ j < n then hook n p j else 0
termination_by n - i
decreasing_by omega
theorem hook_eq (n : Nat) (p : Nat → Nat) (i : Nat) : hook n p i = 1 + sumN n fun j => if p j = i ∧ i < j then hook n p j else 0 := by
  rw [hook]
  congr 1
  refine sumN_congr fun j hj => ?_
  by_cases c : p j = i ∧ i < j
  · rw [dif_pos ⟨c, hj⟩, if_pos c]
  · rw [dif_neg fun q => c q.1, if_neg c]
theorem forest_hook {n : Nat} {p : Nat → Nat} (hp : ∀ i, i < n → p i ≤ i) : Forest n p (hook n p) := ⟨hp, fun i _ => hook_eq n p i⟩
theorem hook_nn {n : Nat} {p : Nat → Nat} (i : Nat) : 1 ≤ hook n p i := by
  have key : ∀ d i, n - i = d → 1 ≤ hook n p i := by
    intro d
    induction d using Nat.strongRecOn with
    | ind d ih =>
      intro i hd
      rw [hook_eq]
      have := sumN_le (n := n) (g := fun _ => 0) (h := fun j => if p j = i ∧ i < j then hook n p j else 0) fun j hj => by
        by_cases c : p j = i ∧ i < j
        · simp only [if_pos c]
          have := ih (n - j) (by omega) j rfl
          omega
        · simp only [if_neg c]; exact Int.le_refl _
      rw [sumN_zero] at this
      omega
  exact key _ i rfl
theorem hook_le {n : Nat} {p : Nat → Nat} (hp : ∀ i, i < n → p i ≤ i) {i : Nat} (hi : i < n) : hook n p i ≤ n := by
  have up : ∀ k, upB n p (2 ^ k - 1) = true := fun k => upB_iff.2 fun j hj hb => by
    rw [Nat.testBit_two_pow_sub_one] at hb ⊢
    have := hp j hj
    have : j < k := of_decide_eq_true hb
    exact decide_eq_true (by omega)
  have hr := (forest_hook hp).roots (up i)
  have e : (2 ^ i - 1) ||| 2 ^ i = 2 ^ (i + 1) - 1 := by
    apply Nat.eq_of_testBit_eq
    intro j
    rw [Nat.testBit_or, testBit_pow, Nat.testBit_two_pow_sub_one, Nat.testBit_two_pow_sub_one, Bool.eq_iff_iff]
    simp only [Bool.or_eq_true, decide_eq_true_eq]; omega
  have hs := sumN_le (n := n) (g := fun j => if j = i then hook n p i else 0) (h := fun j => if (2 ^ i - 1).testBit j = false ∧ upB n p ((2 ^ i - 1) ||| 2 ^ j) = true then hook n p j else 0) fun j hj => by
    by_cases c : j = i
    · subst c
      rw [if_pos rfl, if_pos ⟨by rw [Nat.testBit_two_pow_sub_one]; simp, by rw [e]; exact up _⟩]; exact Int.le_refl _
    · rw [if_neg c]
      split
      · have := hook_nn (n := n) (p := p) j; omega
      · exact Int.le_refl _
  rw [sumN_single n i _ hi, hr] at hs
  omega

/-- Hooks of what has been looked at. -/
def pb (n : Nat) (p : Nat → Nat) (k i : Nat) : Int := sumN n fun j => if (p j = i ∧ i < j) ∧ k ≤ j then hook n p j else 0
theorem pb_top (n : Nat) (p : Nat → Nat) (i : Nat) : pb n p n i = 0 := (sumN_congr fun j hj => if_neg fun q => by omega).trans (sumN_zero n)
theorem pb_self (n : Nat) (p : Nat → Nat) (i : Nat) : 1 + pb n p (i + 1) i = hook n p i := by
  rw [hook_eq]
  congr 1
  refine sumN_congr fun j hj => ?_
  by_cases c : p j = i ∧ i < j
  · rw [if_pos ⟨c, by omega⟩, if_pos c]
  · rw [if_neg fun q => c q.1, if_neg c]
theorem pb_step {n : Nat} {p : Nat → Nat} {c : Nat} (hc : c < n) (i : Nat) : pb n p c i = pb n p (c + 1) i + if p c = i ∧ i < c then hook n p c else 0 := by
  refine sumN_upd hc fun j hj => ?_
  by_cases q : j = c
  · subst q
    by_cases q2 : p j = i ∧ i < j
    · rw [if_pos ⟨q2, Nat.le_refl _⟩, if_neg (by omega), if_pos rfl, if_pos q2]; omega
    · rw [if_neg fun q => q2 q.1, if_neg fun q => q2 q.1, if_pos rfl, if_neg q2]; rfl
  · rw [if_neg q, Int.add_zero]
    by_cases q2 : (p j = i ∧ i < j) ∧ c ≤ j
    · rw [if_pos q2, if_pos ⟨q2.1, by omega⟩]
    · rw [if_neg q2, if_neg fun q3 => q2 ⟨q3.1, by omega⟩]
theorem pb_bd {n : Nat} {p : Nat → Nat} (hp : ∀ i, i < n → p i ≤ i) {i : Nat} (hi : i < n) (k : Nat) : 0 ≤ pb n p k i ∧ pb n p k i ≤ n := by
  constructor
  · have := sumN_le (n := n) (g := fun _ => 0) (h := fun j => if (p j = i ∧ i < j) ∧ k ≤ j then hook n p j else 0) fun j hj => by
      split
      · have := hook_nn (n := n) (p := p) j; omega
      · exact Int.le_refl _
    rwa [sumN_zero] at this
  · have h1 := hook_le hp hi
    rw [hook_eq] at h1
    have := sumN_le (n := n) (g := fun j => if (p j = i ∧ i < j) ∧ k ≤ j then hook n p j else 0) (h := fun j => if p j = i ∧ i < j then hook n p j else 0) fun j hj => by
      by_cases c : p j = i ∧ i < j
      · simp only [if_pos c]
        split
        · exact Int.le_refl _
        · have := hook_nn (n := n) (p := p) j; omega
      · rw [if_neg fun q => c q.1, if_neg c]; exact Int.le_refl _
    have e : pb n p k i ≤ sumN n fun j => if p j = i ∧ i < j then hook n p j else 0 := this
    omega

theorem Pick_spec (k : Int) (n : Nat) (hn : 0 < n) (h1 : -9223372036854775808 ≤ k) (h2 : k ≤ 9223372036854775807) : Gets (rotaref_Pick k n) (fun r => ∃ a : Nat, r = a ∧ a < n) := by
  unfold rotaref_Pick
  have t : ∀ x : Int, 0 ≤ x → ∃ a : Nat, Int.tmod x n = a ∧ a < n := fun x hx => by
    have q1 := Int.tmod_nonneg (n : Int) hx
    have q2 := Int.tmod_lt_of_pos x (show (0 : Int) < n by omega)
    obtain ⟨a, ha⟩ := Int.eq_ofNat_of_zero_le q1
    exact ⟨a, ha, by omega⟩
  exact gIte (fun q => gChk (by omega) (gChk (by omega) (gSome (t _ (by omega))))) fun q => gChk (by omega) (gSome (t _ (by omega)))

/-- The edges. -/
def edges (p : Nat → Nat) (is : List Nat) : List (Int × Int) := is.map fun i => ((p i : Int), (i : Int))
theorem edges_len (p : Nat → Nat) (is : List Nat) : (edges p is).length = is.length := by simp [edges]
theorem edges_get (p : Nat → Nat) (is : List Nat) {k : Nat} (hk : k < is.length) : (edges p is).getD k (0, 0) = ((p (is.getD k 0) : Int), ((is.getD k 0 : Nat) : Int)) := by
  simp [edges, List.getD_eq_getElem?_getD, List.getElem?_eq_getElem hk]
theorem ContainsEdge (p : Nat → Nat) (is : List Nat) (f : Int → Int → Option Bool) (q : Nat → Bool) (hl : is.length < 2 ^ 60) (hf : ∀ i, i ∈ is → f (p i : Nat) (i : Nat) = some (q i)) :
    Gets (slices_ContainsFunc_api_Edge_api_Edge (edges p is) f) (fun r => r = true ↔ ∃ i, i ∈ is ∧ q i = true) := by
  unfold slices_ContainsFunc_api_Edge_api_Edge slices_IndexFunc_api_Edge_api_Edge
  refine gBind (R := fun r : Int => 0 ≤ r ↔ ∃ s, s ∈ is ∧ q s = true) (gBind (R := fun z => match z with | .inl _ => ∀ k, k < is.length → q (is.getD k 0) = false | .inr r => 0 ≤ r ∧ ∃ s, s ∈ is ∧ q s = true)
    (gFor is.length (fun k v => v = (k : Int) ∧ ∀ j, j < k → q (is.getD j 0) = false) (Nat.zero_le _) ⟨rfl, none_all⟩ ?_) ?_) fun r hr => gSome ?_
  · rintro k _ hk ⟨rfl, hb⟩
    simp only [edges_len, toNat_nat]
    refine gIte (fun h1 => gChk (by omega) ?_) fun h1 => gSome fun j hj => hb j (by omega)
    have hk' : k < is.length := by omega
    have hm : is.getD k 0 ∈ is := mem_getD.2 ⟨k, hk', rfl⟩
    rw [edges_get p is hk', hf _ hm]
    simp only [Option.bind_some]
    refine gIte (fun c => gSome ⟨by omega, _, hm, c⟩) fun c => gSome ⟨hk', by simp, step_all hb (bool_ne c)⟩
  · rintro (u | rr) hz
    · refine gSome ⟨fun c => absurd c (by omega), fun ⟨s, hs, hp⟩ => ?_⟩
      obtain ⟨k, hk, rfl⟩ := mem_getD.1 hs
      rw [hz k hk] at hp; cases hp
    · exact gSome ⟨fun _ => hz.2, fun _ => hz.1⟩
  · rw [decide_eq_true_eq]; exact hr

def ups (n : Nat) (p : Nat → Nat) : List Nat := (List.range (2 ^ n)).filter fun s => upB n p s
theorem mem_ups {n : Nat} {p : Nat → Nat} {s : Nat} : s ∈ ups n p ↔ s < 2 ^ n ∧ upB n p s = true := by simp [ups]
theorem fam_filter {m : Nat} (h8 : m ≤ 8) (q : Nat → Bool) : Fam m ((List.range (2 ^ m)).filter q) := by
  have hp : ((List.range (2 ^ m)).filter q).Pairwise (· < ·) := List.Pairwise.filter _ List.pairwise_lt_range
  refine ⟨h8, fun s hs => List.mem_range.1 (List.mem_filter.1 hs).1, fun i j hij hj => ?_⟩
  have := List.pairwise_iff_getElem.1 hp i j (by omega) hj hij
  simpa [List.getD_eq_getElem?_getD, List.getElem?_eq_getElem hj, List.getElem?_eq_getElem (show i < ((List.range (2 ^ m)).filter q).length by omega)] using this
theorem ups_anti {n : Nat} {p : Nat → Nat} (h8 : n ≤ 8) (hp : ∀ i, i < n → p i ≤ i) : Anti n (ups n p) := by
  have hpos : 0 < 2 ^ n := Nat.pow_pos (by omega)
  refine ⟨fam_filter h8 _, mem_ups.2 ⟨hpos, upB_iff.2 fun i _ hb => by simp at hb⟩, mem_ups.2 ⟨by omega, upB_iff.2 fun i hi _ => ?_⟩, fun s hs h0 => ?_, fun s hs t ht => ?_⟩
  · have := hp i hi
    rw [Nat.testBit_two_pow_sub_one]; exact decide_eq_true (by omega)
  · obtain ⟨h1, h2⟩ := mem_ups.1 hs
    have h2 := upB_iff.1 h2
    -- its last element
    have last : ∀ k, k ≤ n → (∀ i, k ≤ i → s.testBit i = false) → ∃ i, s.testBit i = true ∧ ∀ j, i < j → s.testBit j = false := by
      intro k
      induction k with
      | zero => intro _ q; exact absurd (by obtain ⟨i, hi⟩ := exists_bit h0; rw [q i (Nat.zero_le i)] at hi; cases hi) id
      | succ k ih =>
        intro hk q
        cases c : s.testBit k with
        | true => exact ⟨k, c, fun j hj => q j hj⟩
        | false =>
          refine ih (by omega) fun i hi => ?_
          rcases Nat.lt_or_eq_of_le hi with c2 | c2
          · exact q i c2
          · subst c2; exact c
    obtain ⟨i, hi, hlast⟩ := last n (Nat.le_refl n) fun i hi => bit_ge h1 hi
    refine ⟨i, hi, mem_ups.2 ⟨dif_lt h1, upB_iff.2 fun j hj hb => ?_⟩⟩
    rw [testBit_dif, testBit_pow] at hb ⊢
    simp only [Bool.and_eq_true, Bool.not_eq_true', decide_eq_false_iff_not] at hb ⊢
    refine ⟨h2 j hj hb.1, fun q => ?_⟩
    have hpj := hp j hj
    have : i < j := by
      have := hb.2
      omega
    rw [hlast j this] at hb; cases hb.1
  · obtain ⟨h1, h2⟩ := mem_ups.1 hs
    obtain ⟨h3, h4⟩ := mem_ups.1 ht
    refine mem_ups.2 ⟨or_lt h1 h3, upB_iff.2 fun i hi hb => ?_⟩
    rw [Nat.testBit_or, Bool.or_eq_true] at hb ⊢
    rcases hb with q | q
    · exact .inl (upB_iff.1 h2 i hi q)
    · exact .inr (upB_iff.1 h4 i hi q)

theorem convex_Ordered_ok {n : Nat} {p : Nat → Nat} (h8 : n ≤ 8) (hp : ∀ i, i < n → p i ≤ i) {is : List Nat} (his : ∀ i, i ∈ is ↔ i < n ∧ p i < i) (hl : is.length ≤ 8) : convex_Ordered n (edges p is) = some (cs (ups n p), 0) := by
  refine Gets.eq ?_
  have h256 := pow_le8 h8
  unfold convex_Ordered
  refine gIte (fun q => by omega) fun _ => ?_
  simp only [toNat_nat, shl_nat', edges_len]
  refine gBind (R := fun z => match z with | .inl _ => True | .inr r => False) (gFor is.length (fun k v => v = (k : Int)) (Nat.zero_le _) rfl ?_) ?_
  · rintro k _ hk rfl
    simp only [toNat_nat]
    refine gIte (fun h1 => gChk (by omega) ?_) fun h1 => gSome trivial
    have hk' : k < is.length := by omega
    obtain ⟨q1, q2⟩ := (his _).1 (mem_getD.2 ⟨k, hk', rfl⟩)
    simp only [edges_get p is hk']
    exact gIte (fun q => by omega) fun _ => gSome ⟨hk', by simp⟩
  · rintro (u | rr) hz
    rotate_left
    · exact hz.elim
    refine gChk (by omega) (gBind (R := fun o => o = cs (ups n p)) (gFor (2 ^ n) (fun k (x : List Int × Int) => x.2 = (k : Int) ∧ x.1 = cs ((List.range k).filter fun s => upB n p s)) (Nat.zero_le _) ⟨rfl, rfl⟩ ?_) ?_)
    · rintro k ⟨o, v⟩ hk ⟨hv, ho⟩
      simp only at hv ho ⊢
      subst hv ho
      refine gIte (fun h1 => ?_) fun h1 => gSome (by have : k = 2 ^ n := by omega
                                                     subst this; rfl)
      have hk' : k < 2 ^ n := by omega
      have hle : ((List.range k).filter fun s => upB n p s).length ≤ k := by
        have := List.length_filter_le (fun s => upB n p s) (List.range k)
        simpa using this
      refine gBind (ContainsEdge p is _ (fun i => k.testBit i && !k.testBit (p i)) (by omega) fun i hi => ?_) fun r hr => ?_
      · unfold convex_Ordered_1
        rw [bit_nat, bit_nat, chk_pos (by omega)]
        cases k.testBit i <;> cases k.testBit (p i) <;> simp
      · have hup : ¬ r = true ↔ upB n p k = true := by
          rw [hr, upB_iff]
          constructor
          · intro q i hi hb
            cases c : k.testBit (p i) with
            | true => rfl
            | false =>
              have hpi := hp i hi
              rcases Nat.lt_or_eq_of_le hpi with c2 | c2
              · exact absurd ⟨i, (his i).2 ⟨hi, c2⟩, by simp [hb, c]⟩ q
              · rw [c2, hb] at c; cases c
          · rintro q ⟨i, hi, hb⟩
            simp only [Bool.and_eq_true, Bool.not_eq_true'] at hb
            rw [q i ((his i).1 hi).1 hb.1] at hb; cases hb.2
        refine gIte (fun q => gChk (by simp; omega) (gSome ⟨hk', by simp, ?_⟩)) fun q => gSome ⟨hk', by simp, ?_⟩
        · have := hup.1 q
          rw [List.range_succ, List.filter_append, cs_app]; simp [this]
        · have : ¬ upB n p k = true := fun c => q (hup.2 c)
          rw [List.range_succ, List.filter_append]; simp [this]
    · rintro o rfl
      refine gBindE (ups_anti h8 hp).check ?_
      simp only [ne_eq, not_true_eq_false, not_false_eq_true, if_true, false_or]
      refine gBind (ContainsEdge p is _ (fun i => decide (p i = i)) (by omega) fun i hi => ?_) fun r hr => gIte (fun q => ?_) fun _ => gSome rfl
      · unfold convex_Ordered_2
        congr 1
        rw [Bool.eq_iff_iff, decide_eq_true_eq, decide_eq_true_eq]; omega
      · obtain ⟨i, hi, hq⟩ := hr.1 q
        have := ((his i).1 hi).2
        have : p i = i := of_decide_eq_true hq
        omega
end Go.SH
