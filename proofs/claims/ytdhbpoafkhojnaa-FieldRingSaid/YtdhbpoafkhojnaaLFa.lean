/-
  Matrices modulo p whose rows have heads: what is nought with all rows tells them; how many rows there are at least. Conditions: none.
-/
import Derived.Test.YtdhbpoafkhojnaaLKf
set_option linter.unusedSimpArgs false
set_option linter.unusedVariables false
set_option linter.unusedSectionVars false
namespace Go.SH
open Go Go.AX

section
variable {p : Nat} [NeZero p]
theorem fa1 (a b c : Fin p) : a * (b - c) = a * b - a * c := by grind
theorem fa2 (a b : Fin p) (h : a - b = 0) : a = b := by grind
theorem fa3 (a : Fin p) : a * 1 = a := by grind
theorem fa4 (a : Fin p) : 1 * a = a := by grind
theorem fa5 (a : Fin p) : a * 0 = 0 := by grind
theorem fa6 (a : Fin p) : 0 * a = 0 := by grind
theorem fa7 (a : Fin p) : a - a = 0 := by grind
theorem fa8 (a b : Fin p) : a * b = b * a := by grind
theorem fa9 (a b c : Fin p) : a * b * c = a * (b * c) := by grind
/-- Rows with heads: a head is 1 and stands alone in its column; what is before it is nought. -/
structure Rr (k n : Nat) (h : Nat → Nat) (M : Nat → Nat → Fin p) : Prop where
  inc : ∀ i j, i < j → j < k → h i < h j
  lt : ∀ i, i < k → h i < n
  one : ∀ i, i < k → M i (h i) = 1
  off : ∀ i j, i < k → j < k → i ≠ j → M i (h j) = 0
  low : ∀ i j, i < k → j < h i → M i j = 0
variable {k n : Nat} {h : Nat → Nat} {M : Nat → Nat → Fin p}
theorem Rr.inj (H : Rr k n h M) {i j : Nat} (hi : i < k) (hj : j < k) (e : h i = h j) : i = j := by
  rcases Nat.lt_trichotomy i j with c | c | c
  · have := H.inc i j c hj; omega
  · exact c
  · have := H.inc j i c hi; omega
theorem ind_sum (hlt : ∀ t, t < k → h t < n) (f c : Nat → Fin p) : Sm n (fun l => f l * Sm k (fun t => if l = h t then c t else 0)) = Sm k (fun t => f (h t) * c t) := by
  rw [Sm_congr (g := fun l => Sm k (fun t => f l * (if l = h t then c t else 0))) fun l _ => (Sm_mul _ _ _).symm, Sm_comm]
  refine Sm_congr fun t ht => ?_
  rw [Sm_one (k := h t) (hlt t ht) fun l _ hne => by rw [if_neg hne]; exact fa5 _, if_pos rfl]
theorem Rr.ind (H : Rr k n h M) (c : Nat → Fin p) {s : Nat} (hs : s < k) : Sm k (fun t => if h s = h t then c t else 0) = c s := by
  rw [Sm_one (k := s) hs fun t ht hne => if_neg fun e => hne (H.inj hs ht e).symm, if_pos rfl]
/-- What a column without a head tells. -/
def kv (k : Nat) (h : Nat → Nat) (M : Nat → Nat → Fin p) (j l : Nat) : Fin p := (if l = j then 1 else 0) - Sm k (fun t => if l = h t then M t j else 0)
theorem kv_sum (hlt : ∀ t, t < k → h t < n) {j : Nat} (hj : j < n) (f : Nat → Fin p) : Sm n (fun l => f l * kv k h M j l) = f j - Sm k (fun t => f (h t) * M t j) := by
  rw [← ind_sum hlt f (fun t => M t j)]
  have : f j = Sm n (fun l => f l * (if l = j then 1 else 0)) := by
    rw [Sm_one (k := j) hj fun l _ hne => by rw [if_neg hne]; exact fa5 _, if_pos rfl, fa3]
  rw [this, ← Sm_sub]
  exact Sm_congr fun l _ => fa1 _ _ _
theorem Rr.row (H : Rr k n h M) {i : Nat} (hi : i < k) (c : Nat → Fin p) : Sm k (fun t => M i (h t) * c t) = c i := by
  rw [Sm_one (k := i) hi fun t ht hne => by rw [H.off i t hi ht (Ne.symm hne)]; exact fa6 _, H.one i hi, fa4]
theorem Rr.kv_ker (H : Rr k n h M) {j : Nat} (hj : j < n) : Ker k n M (kv k h M j) := fun i hi => by
  rw [kv_sum H.lt hj, H.row hi (fun t => M t j), fa7]
theorem Rr.lead (H : Rr k n h M) (h1 : (1 : Fin p) ≠ 0) {j : Nat} (hj : j < n) : (∃ t, t < k ∧ h t = j) ↔ ∀ v : Nat → Fin p, Ker k n M v → (∀ l, j < l → l < n → v l = 0) → v j = 0 := by
  constructor
  · rintro ⟨t, ht, rfl⟩ v hv hz
    have := hv t ht
    rw [Sm_one (k := h t) hj fun l hl hne => ?_, H.one t ht, fa4] at this
    · exact this
    · rcases Nat.lt_or_ge l (h t) with c | c
      · rw [H.low t l ht c]; exact fa6 _
      · rw [hz l (by omega) hl]; exact fa5 _
  · intro hall
    apply Classical.byContradiction
    intro hno
    have hne : ∀ t, t < k → j ≠ h t := fun t ht e => hno ⟨t, ht, e.symm⟩
    have e : kv k h M j j = 1 := by
      unfold kv
      rw [if_pos rfl, Sm_zero fun t ht => if_neg (hne t ht)]
      grind
    refine h1 (e ▸ hall _ (H.kv_ker hj) fun l hl _ => ?_)
    unfold kv
    rw [if_neg (by omega), Sm_zero fun t ht => ?_]
    · exact fa7 0
    · by_cases c : l = h t
      · rw [if_pos c]; exact H.low t j ht (by omega)
      · rw [if_neg c]
theorem seq_le {k k' : Nat} {h h' : Nat → Nat} (i1 : ∀ i j, i < j → j < k → h i < h j) (i2 : ∀ i j, i < j → j < k' → h' i < h' j) (hs : ∀ t, t < k → ∃ t', t' < k' ∧ h' t' = h t) : k ≤ k' ∧ ∀ t, t < k → h' t ≤ h t := by
  have mono : ∀ i j, i ≤ j → j < k' → h' i ≤ h' j := fun i j hij hj => by
    rcases Nat.lt_or_ge i j with c | c
    · exact Nat.le_of_lt (i2 i j c hj)
    · rw [show i = j by omega]; exact Nat.le_refl _
  have key : ∀ t, t < k → ∃ t', t ≤ t' ∧ t' < k' ∧ h' t' = h t := by
    intro t
    induction t with
    | zero => exact fun h0 => let ⟨t', a, b⟩ := hs 0 h0; ⟨t', Nat.zero_le _, a, b⟩
    | succ t ih =>
      intro ht
      obtain ⟨u, u1, u2, u3⟩ := ih (by omega)
      obtain ⟨t', a, b⟩ := hs (t + 1) ht
      have h1 := i1 t (t + 1) (by omega) ht
      refine ⟨t', ?_, a, b⟩
      rcases Nat.lt_or_ge u t' with c | c
      · omega
      · have := mono t' u c u2; omega
  refine ⟨?_, fun t ht => ?_⟩
  · rcases Nat.eq_zero_or_pos k with c | c
    · omega
    · obtain ⟨t', a, b, _⟩ := key (k - 1) (by omega); omega
  · obtain ⟨t', a, b, c⟩ := key t ht
    rw [← c]; exact mono t t' a b
variable {k' : Nat} {h' : Nat → Nat} {M' : Nat → Nat → Fin p}
theorem Rr.heads (H : Rr k n h M) (H' : Rr k' n h' M') (h1 : (1 : Fin p) ≠ 0) (hk : ∀ v, Ker k n M v → Ker k' n M' v) : ∀ t, t < k' → ∃ s, s < k ∧ h s = h' t := fun t ht =>
  (H.lead h1 (H'.lt t ht)).2 fun v hv hz => (H'.lead h1 (H'.lt t ht)).1 ⟨t, ht, rfl⟩ v (hk v hv) hz
/-- What has more that is nought with it has fewer rows. -/
theorem Rr.le (H : Rr k n h M) (H' : Rr k' n h' M') (h1 : (1 : Fin p) ≠ 0) (hk : ∀ v, Ker k n M v → Ker k' n M' v) : k' ≤ k :=
  (seq_le H'.inc H.inc (H.heads H' h1 hk)).1
/-- Rows with heads are told by what is nought with them. -/
theorem Rr.same (H : Rr k n h M) (H' : Rr k' n h' M') (h1 : (1 : Fin p) ≠ 0) (hk : ∀ v, Ker k n M v ↔ Ker k' n M' v) : k = k' ∧ (∀ i, i < k → h i = h' i) ∧ ∀ i, i < k → ∀ j, j < n → M i j = M' i j := by
  obtain ⟨a1, a2⟩ := seq_le H'.inc H.inc (H.heads H' h1 fun v => (hk v).1)
  obtain ⟨b1, b2⟩ := seq_le H.inc H'.inc (H'.heads H h1 fun v => (hk v).2)
  have e : k = k' := by omega
  subst e
  have eh : ∀ i, i < k → h i = h' i := fun i hi => by have := a2 i hi; have := b2 i hi; omega
  refine ⟨rfl, eh, fun i hi j hj => ?_⟩
  have := (hk _).1 (H.kv_ker hj) i hi
  rw [kv_sum H.lt hj, Sm_congr (g := fun t => M' i (h' t) * M t j) fun t ht => by rw [eh t ht], H'.row hi (fun t => M t j)] at this
  exact (fa2 _ _ this).symm
/-- A row with which nought is what is nought with all rows hangs on them. -/
theorem Rr.span (H : Rr k n h M) {f : Nat → Fin p} (hf : ∀ v, Ker k n M v → Sm n (fun l => f l * v l) = 0) {j : Nat} (hj : j < n) : f j = Sm k (fun t => f (h t) * M t j) := by
  have := hf _ (H.kv_ker hj)
  rw [kv_sum H.lt hj] at this
  exact fa2 _ _ this
/-- No fewer rows tell as much. -/
theorem Rr.least (H : Rr k n h M) (hp : Fld p) {a : Nat} {Z : Nat → Nat → Fin p} (hZ : ∀ v, Ker a n Z v → Ker k n M v) : k ≤ a := by
  apply Classical.byContradiction
  intro hlt
  obtain ⟨c, ⟨s, s1, s2⟩, c2⟩ := nontriv hp a k (fun t q => Z q (h t)) (by omega)
  refine s2 ?_
  have hk : Ker k n M (fun l => Sm k (fun t => if l = h t then c t else 0)) := hZ _ fun q hq => by
    rw [ind_sum H.lt (fun l => Z q l) c, ← c2 q hq]
    exact Sm_congr fun t _ => fa8 _ _
  have := hk s s1
  rw [ind_sum H.lt (fun l => M s l) c, H.row s1 c] at this
  exact this
end
end Go.SH
