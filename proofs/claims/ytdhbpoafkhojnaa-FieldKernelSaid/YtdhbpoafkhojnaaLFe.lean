/-
  The vectors that hang on rows with heads, and what is nought with all of them: each other's, and the columns' sets each other's complements. Conditions: none.
-/
import Derived.Test.YtdhbpoafkhojnaaLFc
import Derived.Test.YtdhbpoafkhojnaaLHa
import Derived.Test.YtdhbpoafkhojnaaLRm
set_option linter.unusedSimpArgs false
set_option linter.unusedVariables false
set_option linter.unusedSectionVars false
namespace Go.SH
open Go Go.AX

section
variable {p : Nat} [NeZero p]
/-- Fewer equations than the unknowns of a set have an answer on it. -/
theorem solve (hp : Fld p) {a n s : Nat} (M : Nat → Nat → Fin p) (h : a < cnt n s) : ∃ c : Nat → Fin p, (∃ x, x < n ∧ c x ≠ 0) ∧ (∀ y, y < n → s.testBit y = false → c y = 0) ∧ ∀ q, q < a → Sm n (fun x => M q x * c x) = 0 := by
  have hcp := cpl_cnt (m := n) (s := s)
  obtain ⟨c, hx, c2⟩ := nontriv hp (a + cnt n (cpl n s)) n (fun x q => if q < a then M q x else (if x = (elm n (cpl n s)).getD (q - a) 0 then 1 else 0)) (by omega)
  refine ⟨c, hx, fun y hy hb => ?_, fun q hq => ?_⟩
  · have hb' : (cpl n s).testBit y = true := by rw [cpl_bit, hb]; simp [hy]
    have hq : cnt y (cpl n s) < cnt n (cpl n s) := by
      have e : cnt (y + 1) (cpl n s) = cnt y (cpl n s) + 1 := by rw [cnt, if_pos hb']
      have := cnt_up (cpl n s) (show y + 1 ≤ n by omega)
      omega
    have := c2 (a + cnt y (cpl n s)) (by omega)
    rw [Sm_one (k := y) hy fun i hi hne => ?_] at this
    · rw [if_neg (by omega), Nat.add_sub_cancel_left, elm_at hy hb', if_pos rfl, fa3] at this
      exact this
    · rw [if_neg (by omega), Nat.add_sub_cancel_left, elm_at hy hb', if_neg hne, fa5]
  · rw [← c2 q (by omega)]
    exact Sm_congr fun x hx => by rw [if_pos hq]; exact fa8 _ _
/-- It hangs on the rows. -/
def RowS (k n : Nat) (h : Nat → Nat) (M : Nat → Nat → Fin p) (w : Nat → Fin p) : Prop := ∀ l, l < n → w l = Sm k (fun t => w (h t) * M t l)
variable {k n : Nat} {h : Nat → Nat} {M : Nat → Nat → Fin p}
theorem Rr.rowS_iff (H : Rr k n h M) (w : Nat → Fin p) : (∀ j, j < n → (∀ t, t < k → h t ≠ j) → Sm n (fun l => kv k h M j l * w l) = 0) ↔ RowS k n h M w := by
  have e : ∀ j, j < n → Sm n (fun l => kv k h M j l * w l) = w j - Sm k (fun t => w (h t) * M t j) := fun j hj => by
    rw [← kv_sum H.lt hj w]
    exact Sm_congr fun l _ => fa8 _ _
  constructor
  · intro hw l hl
    by_cases q : ∃ t, t < k ∧ h t = l
    · obtain ⟨t, ht, rfl⟩ := q
      rw [Sm_one (k := t) ht fun s hs hne => by rw [H.off s t hs ht hne]; exact fa5 _, H.one t ht, fa3]
    · exact fa2 _ _ ((e l hl).symm.trans (hw l hl fun t ht w => q ⟨t, ht, w⟩))
  · intro hw j hj _
    rw [e j hj, ← hw j hj, fa7]
theorem rowS_dot {w : Nat → Fin p} (hw : RowS k n h M w) (u : Nat → Fin p) : Sm n (fun l => w l * u l) = Sm k (fun t => w (h t) * Sm n (fun l => M t l * u l)) := by
  rw [Sm_congr (g := fun l => Sm k (fun t => w (h t) * (M t l * u l))) fun l hl => by
    rw [hw l hl, ← Sm_mulr]; exact Sm_congr fun t _ => fa9 _ _ _, Sm_comm]
  exact Sm_congr fun t _ => Sm_mul _ _ _
theorem rowS_perp {w u : Nat → Fin p} (hw : RowS k n h M w) (hu : Ker k n M u) : Sm n (fun l => w l * u l) = 0 := by
  rw [rowS_dot hw]
  exact Sm_zero fun t ht => by rw [hu t ht]; exact fa5 _
theorem Rr.rowS_of (H : Rr k n h M) {w : Nat → Fin p} (hw : ∀ u, Ker k n M u → Sm n (fun l => w l * u l) = 0) : RowS k n h M w := fun l hl => H.span hw hl
theorem Rr.rowS_self (H : Rr k n h M) {i : Nat} (hi : i < k) : RowS k n h M (M i) := fun l _ => (H.row hi (fun t => M t l)).symm
/-- Nothing but nought is of these and lies in a set. -/
def Ind0 (n : Nat) (V : (Nat → Fin p) → Prop) (s : Nat) : Prop := ∀ v, V v → (∀ j, j < n → s.testBit j = false → v j = 0) → ∀ j, j < n → v j = 0
theorem ind0_le (hp : Fld p) {s : Nat} (h : Ind0 n (Ker k n M) s) : cnt n s ≤ k := by
  apply Classical.byContradiction
  intro hlt
  obtain ⟨c, ⟨x, x1, x2⟩, c2, c3⟩ := solve hp M (show k < cnt n s by omega)
  exact x2 (h c c3 c2 x x1)
theorem Rr.heads_set (H : Rr k n h M) : ∃ s, s < 2 ^ n ∧ cnt n s = k ∧ Ind0 n (Ker k n M) s ∧ ∀ j, s.testBit j = true ↔ ∃ t, t < k ∧ h t = j := by
  obtain ⟨N, n1, n2, n3⟩ := image_ex (n := k) h n (2 ^ k - 1) (full_lt k) (fun x hx => H.lt x (by rw [full_bit] at hx; simpa using hx)) (fun x y hx hy e => H.inj (by rw [full_bit] at hx; simpa using hx) (by rw [full_bit] at hy; simpa using hy) e)
  have hk : cnt k (2 ^ k - 1) = k := by
    have := cpl_cnt (m := k) (s := 0)
    rw [cpl, dif_zero, cnt_zero] at this; omega
  refine ⟨N, n1, by rw [n2, hk], fun v hv hz j hj => ?_, fun j => (n3 j).trans ⟨fun ⟨t, a, b⟩ => ⟨t, by rw [full_bit] at a; simpa using a, b⟩, fun ⟨t, a, b⟩ => ⟨t, by rw [full_bit]; simpa using a, b⟩⟩⟩
  cases q : N.testBit j with
  | false => exact hz j hj q
  | true =>
    obtain ⟨t, t1, rfl⟩ := (n3 j).1 q
    have ht : t < k := by rw [full_bit] at t1; simpa using t1
    have := hv t ht
    rw [Sm_one (k := h t) hj fun l hl hne => ?_, H.one t ht, fa4] at this
    · exact this
    · cases q2 : N.testBit l with
      | false => rw [hz l hl q2]; exact fa5 _
      | true =>
        obtain ⟨s, s1, rfl⟩ := (n3 l).1 q2
        have hs : s < k := by rw [full_bit] at s1; simpa using s1
        rw [H.off t s ht hs (fun e => hne (by rw [e]))]; exact fa6 _
/-- Where the rows' columns do not hang on one another, nothing that hangs on the rows is nought. -/
theorem Rr.dual_ind (H : Rr k n h M) (hp : Fld p) {s : Nat} (hc : k ≤ cnt n s) (hi : Ind0 n (Ker k n M) s) {w : Nat → Fin p} (hw : RowS k n h M w) (hz : ∀ l, l < n → s.testBit l = true → w l = 0) : ∀ l, l < n → w l = 0 := by
  by_cases q : ∃ t, t < k ∧ w (h t) ≠ 0
  · exfalso
    obtain ⟨t0, ht0, hne⟩ := q
    obtain ⟨k', rfl⟩ : ∃ k', k = k' + 1 := ⟨k - 1, by omega⟩
    obtain ⟨c, ⟨x, x1, x2⟩, c2, c3⟩ := solve hp (fun q x => M (sk t0 q) x) (show k' < cnt n s by omega)
    have hrest : ∀ t, t < k' + 1 → t ≠ t0 → Sm n (fun l => M t l * c l) = 0 := fun t ht hn => by
      obtain ⟨i, i1, i2⟩ := sk_of ht0 ht hn
      rw [← i2]; exact c3 i i1
    have hdot : Sm n (fun l => w l * c l) = 0 := Sm_zero fun l hl => by
      cases b : s.testBit l with
      | true => rw [hz l hl b]; exact fa6 _
      | false => rw [c2 l hl b]; exact fa5 _
    rw [rowS_dot hw, Sm_one (k := t0) ht0 fun t ht hn => by rw [hrest t ht hn]; exact fa5 _] at hdot
    have h0 := hp.zero_of hne hdot
    refine x2 (hi c (fun i hi => ?_) c2 x x1)
    by_cases e : i = t0
    · rw [e]; exact h0
    · exact hrest i hi e
  · intro l hl
    rw [hw l hl]
    refine Sm_zero fun t ht => ?_
    have : w (h t) = 0 := Classical.byContradiction fun z => q ⟨t, ht, z⟩
    rw [this]; exact fa6 _
variable {k' : Nat} {h' : Nat → Nat} {M' : Nat → Nat → Fin p}
theorem Rr.turn (H : Rr k n h M) (H' : Rr k' n h' M') (hK : ∀ w, Ker k' n M' w ↔ RowS k n h M w) (u : Nat → Fin p) : Ker k n M u ↔ RowS k' n h' M' u := by
  constructor
  · intro hu
    refine H'.rowS_of fun v hv => ?_
    rw [Sm_congr fun l _ => fa8 _ _]
    exact rowS_perp ((hK v).1 hv) hu
  · intro hu i hi
    rw [Sm_congr fun l _ => fa8 _ _]
    exact rowS_perp hu ((hK _).2 (H.rowS_self hi))
theorem Rr.cpl_ind (H : Rr k n h M) (hp : Fld p) (hK : ∀ w, Ker k' n M' w ↔ RowS k n h M w) {s : Nat} (hc : k ≤ cnt n s) (hi : Ind0 n (Ker k n M) s) : Ind0 n (Ker k' n M') (cpl n s) := fun w hw hz =>
  H.dual_ind hp hc hi ((hK w).1 hw) fun l hl hb => hz l hl (by rw [cpl_bit, hb]; simp)
theorem Rr.sum (H : Rr k n h M) (H' : Rr k' n h' M') (hp : Fld p) (hK : ∀ w, Ker k' n M' w ↔ RowS k n h M w) : k + k' = n := by
  obtain ⟨s, s1, s2, s3, s4⟩ := H.heads_set
  have a := ind0_le hp (H.cpl_ind hp hK (by omega) s3)
  have b := H'.least hp (a := cnt n (cpl n s)) (Z := fun q => kv k h M ((elm n (cpl n s)).getD q 0)) fun w hw => (hK w).2 ((H.rowS_iff w).1 fun j hj hno => by
    have hb : (cpl n s).testBit j = true := by
      rw [cpl_bit]
      cases q : s.testBit j with
      | false => simp [hj]
      | true => obtain ⟨t, t1, t2⟩ := (s4 j).1 q; exact absurd t2 (hno t t1)
    have hq : cnt j (cpl n s) < cnt n (cpl n s) := by
      have e : cnt (j + 1) (cpl n s) = cnt j (cpl n s) + 1 := by rw [cnt, if_pos hb]
      have := cnt_up (cpl n s) (show j + 1 ≤ n by omega)
      omega
    have := hw _ hq
    simp only [elm_at hj hb] at this
    exact this)
  have := cpl_cnt (m := n) (s := s)
  omega
/-- The sets are each other's complements. -/
theorem Rr.bases (H : Rr k n h M) (H' : Rr k' n h' M') (hp : Fld p) (hK : ∀ w, Ker k' n M' w ↔ RowS k n h M w) {s : Nat} (hs : s < 2 ^ n) : (Ind0 n (Ker k n M) s ∧ cnt n s = k) ↔ (Ind0 n (Ker k' n M') (cpl n s) ∧ cnt n (cpl n s) = k') := by
  have e := H.sum H' hp hK
  have := cpl_cnt (m := n) (s := s)
  constructor
  · rintro ⟨a, b⟩
    exact ⟨H.cpl_ind hp hK (by omega) a, by omega⟩
  · rintro ⟨a, b⟩
    have := H'.cpl_ind (M' := M) hp (H.turn H' hK) (by omega) a
    rw [cpl_cpl hs] at this
    exact ⟨this, by omega⟩
/-- The greatest such sets are those of the rows' number. -/
theorem Rr.most (H : Rr k n h M) (hp : Fld p) {s : Nat} : (s < 2 ^ n ∧ Ind0 n (Ker k n M) s ∧ ∀ t, t < 2 ^ n → Ind0 n (Ker k n M) t → cnt n t ≤ cnt n s) ↔ (s < 2 ^ n ∧ Ind0 n (Ker k n M) s ∧ cnt n s = k) := by
  constructor
  · rintro ⟨a, b, c⟩
    obtain ⟨t, t1, t2, t3, _⟩ := H.heads_set
    have := c t t1 t3
    have := ind0_le hp b
    exact ⟨a, b, by omega⟩
  · rintro ⟨a, b, c⟩
    exact ⟨a, b, fun t _ ht => by have := ind0_le hp ht; omega⟩
end
end Go.SH
