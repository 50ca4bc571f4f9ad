/-
  Minors of what columns tell have relations; graphs have columns over all numbers. Conditions: at most eight elements.
-/
import Derived.Test.YtabhcjpjoknihaaLzA
set_option linter.unusedSimpArgs false
set_option linter.unusedVariables false
set_option linter.unusedSectionVars false
namespace Go.SH
open Go Go.AX

section
variable {p : Nat} [NeZero p]
theorem sm_lin (r m : Nat) (M : Nat → Nat → Fin p) (a b : Fin p) {u v : Nat → Fin p} (hu : Ker r m M u) (hv : Ker r m M v) : Ker r m M fun j => a * u j + b * v j := fun i hi => by
  have e : Sm m (fun j => M i j * (a * u j + b * v j)) = a * Sm m (fun j => M i j * u j) + b * Sm m (fun j => M i j * v j) := by
    rw [← Sm_mul, ← Sm_mul, ← Sm_add]
    exact Sm_congr fun j _ => by grind
  rw [e, hu i hi, hv i hi]
  grind
theorem rel_of_emb {m r k : Nat} {K : List Nat} {X : List (List Int)} {RB : Nat → Nat} (h : Mat m K) (hI : ∀ s, s < 2 ^ m → (Ind K s ↔ ColInd p r m X s)) (he : Emb m k (rk m K) RB) : ∃ 𝓡, RelS p k RB 𝓡 := by
  obtain ⟨f, c, f1, c1, fc, fr⟩ := he
  obtain ⟨I, i1, i2, i3⟩ := h.rk_ind (s := c)
  have hIlt : I < 2 ^ m := Nat.lt_of_le_of_lt (inc_le i2) c1
  have rI : rk m K I = cnt m I := (h.ind_iff hIlt).1 i1
  have hl : ∀ s, im m k f s ||| I < 2 ^ m := fun s => or_lt (im_lt ..) hIlt
  have dis : ∀ s, im m k f s &&& I = 0 := fun s => (disj_iff _ _).2 fun x hx => bool_ne fun q => by
    obtain ⟨_, i, j1, _, j3⟩ := (im_bit ..).1 hx
    have := fc i j1
    rw [j3, i2 x q] at this
    cases this
  have cn : ∀ s, s < 2 ^ k → cnt m (im m k f s ||| I) = cnt k s + cnt m I := fun s hs => by rw [cnt_disj (dis s), f1.cnt s hs]
  have rkI : ∀ s, s < 2 ^ k → rk m K (im m k f s ||| I) = RB s + cnt m I := fun s hs => by
    have h1 := h.rk_sub (im m k f s ||| I) c
    have h2 : rk m K (im m k f s ||| I ||| c) = rk m K (im m k f s ||| c) := congrArg _ (bx fun x => by
      rw [Nat.testBit_or, Nat.testBit_or, Nat.testBit_or]
      have := i2 x
      cases q : I.testBit x <;> cases q2 : c.testBit x <;> simp
      rw [q, q2] at this; exact absurd (this rfl) (by simp))
    have h3 : rk m K I ≤ rk m K ((im m k f s ||| I) &&& c) := h.rk_mono fun x hx => by
      rw [Nat.testBit_and, Nat.testBit_or, hx, i2 x hx]; simp
    have h4 : rk m K (im m k f s ||| I) ≤ rk m K (im m k f s ||| c) := h.rk_mono fun x hx => by
      rw [Nat.testBit_or] at hx ⊢
      rcases Bool.or_eq_true_iff.1 hx with q | q
      · simp [q]
      · simp [i2 x q]
    have h5 := fr s hs
    rw [h2] at h1
    omega
  refine ⟨fun ρ => ∃ v, Ker r m (MF p X) v ∧ (∀ j, j < m → (im m k f (2 ^ k - 1) ||| I).testBit j = false → v j = 0) ∧ ∀ i, i < k → ρ i = v (f i), ⟨?_, ?_, ?_⟩⟩
  · rintro a b ρ σ ⟨u, u1, u2, u3⟩ ⟨v, v1, v2, v3⟩
    exact ⟨fun j => a * u j + b * v j, sm_lin r m _ a b u1 v1, fun j hj hb => by simp only [u2 j hj hb, v2 j hj hb]; grind, fun i hi => by simp only [u3 i hi, v3 i hi]⟩
  · rintro s hs hr ρ ⟨v, v1, v2, v3⟩ hz i hi
    have hind : Ind K (im m k f s ||| I) := (h.ind_iff (hl s)).2 (by rw [rkI s hs, cn s hs, hr])
    have := (hI _ (hl s)).1 hind v v1 fun j hj hb => by
      by_cases q : (im m k f (2 ^ k - 1) ||| I).testBit j = true
      · rw [Nat.testBit_or] at hb q
        have hbI : I.testBit j = false := by cases z : I.testBit j <;> simp_all
        have hbs : (im m k f s).testBit j = false := by cases z : (im m k f s).testBit j <;> simp_all
        rw [hbI, Bool.or_false] at q
        obtain ⟨_, i', j1, _, j3⟩ := (im_bit ..).1 q
        have hsi : s.testBit i' = false := by rw [← f1.bit (s := s) j1, j3]; exact hbs
        rw [← j3, ← v3 i' j1]
        exact hz i' j1 hsi
      · exact v2 j hj (bool_ne q)
    rw [v3 i hi]
    exact this _ (f1.lt i hi)
  · intro s hs hr
    have hni : ¬ Ind K (im m k f s ||| I) := fun q => by
      have := (h.ind_iff (hl s)).1 q
      rw [rkI s hs, cn s hs] at this
      omega
    have hnc : ¬ ColInd p r m X (im m k f s ||| I) := fun q => hni ((hI _ (hl s)).2 q)
    obtain ⟨v, hv⟩ := Classical.not_forall.1 hnc
    obtain ⟨v1, hv⟩ := Classical.not_imp.1 hv
    obtain ⟨v2, hv⟩ := Classical.not_imp.1 hv
    have up : ∀ j, (im m k f (2 ^ k - 1) ||| I).testBit j = false → (im m k f s ||| I).testBit j = false := fun j hj => by
      rw [Nat.testBit_or, Bool.or_eq_false_iff] at hj ⊢
      refine ⟨bool_ne fun q => ?_, hj.2⟩
      obtain ⟨a1, i, a2, _, a4⟩ := (im_bit ..).1 q
      have := (im_bit m k f (2 ^ k - 1) j).2 ⟨a1, i, a2, by rw [full_bit]; simp [a2], a4⟩
      rw [hj.1] at this; cases this
    refine ⟨fun i => v (f i), ⟨v, v1, fun j hj hb => v2 j hj (up j hb), fun i _ => rfl⟩, fun i hi hsi => v2 _ (f1.lt i hi) ?_, ?_⟩
    · rw [Nat.testBit_or, f1.bit hi, hsi, Bool.false_or]
      exact bool_ne fun q => by have := fc i hi; rw [i2 _ q] at this; cases this
    · refine Classical.byContradiction fun hno => hv ?_
      refine (hI I hIlt).1 i1 v v1 fun j hj hb => ?_
      by_cases q : (im m k f s).testBit j = true
      · obtain ⟨_, i, a2, _, a4⟩ := (im_bit ..).1 q
        rw [← a4]
        exact Classical.byContradiction fun w => hno ⟨i, a2, w⟩
      · exact v2 j hj (by rw [Nat.testBit_or, bool_ne q, hb]; rfl)
end
/-- What can be grown lies within one of the greatest. -/
theorem aug_in {n : Nat} {q : Nat → Prop} {K : List Nat} (hK : ∀ s, s ∈ K ↔ s < 2 ^ n ∧ q s ∧ ∀ t, t < 2 ^ n → q t → cnt n t ≤ cnt n s)
    (haug : ∀ I J, I < 2 ^ n → J < 2 ^ n → q I → q J → cnt n I < cnt n J → ∃ e, J.testBit e = true ∧ I.testBit e = false ∧ q (I ||| 2 ^ e)) : ∀ d s, s < 2 ^ n → q s → n ≤ cnt n s + d → Ind K s := by
  intro d
  induction d with
  | zero => exact fun s hs hq hd => ⟨s, (hK s).2 ⟨hs, hq, fun t _ _ => by have := cnt_le n t; omega⟩, fun x hx => hx⟩
  | succ d ih =>
    intro s hs hq hd
    by_cases c : ∀ t, t < 2 ^ n → q t → cnt n t ≤ cnt n s
    · exact ⟨s, (hK s).2 ⟨hs, hq, c⟩, fun x hx => hx⟩
    · obtain ⟨t, ht⟩ := Classical.not_forall.1 c
      obtain ⟨t1, ht⟩ := Classical.not_imp.1 ht
      obtain ⟨t2, t3⟩ := Classical.not_imp.1 ht
      obtain ⟨e, e1, e2, e3⟩ := haug s t hs t1 hq t2 (by omega)
      have hlt : s ||| 2 ^ e < 2 ^ n := or_lt hs (Nat.pow_lt_pow_right (by omega) (bit_lt t1 e1))
      have hc := cnt_add (bit_lt t1 e1) e2
      obtain ⟨b, b1, b2⟩ := ih _ hlt e3 (by omega)
      exact ⟨b, b1, fun x hx => b2 x (by rw [Nat.testBit_or, hx]; simp)⟩
def gX (p : Nat) [NeZero p] (n : Nat) (E : List (Int × Int)) : List (List Int) := (List.range (n - 1)).map fun w => (List.range E.length).map fun j => (((inc E w j : Fin p).val : Nat) : Int)
theorem gX_iff {p : Nat} [NeZero p] (hp : Fld p) {n : Nat} {E : List (Int × Int)} (h : CG n E) {t : Nat} (ht : t < 2 ^ E.length) : ColInd p (n - 1) E.length (gX p n E) t ↔ GF E t :=
  forest_ind (by have := h.n1; omega) h.ends.1 hp.one (fun w hw j hj => by
    have e : ent (gX p n E) w j = (((inc E w j : Fin p).val : Nat) : Int) := by
      unfold ent gX
      rw [List.getD_eq_getElem?_getD (l := List.map _ _), List.getElem?_map, List.getElem?_range hw]
      simp only [Option.map_some, Option.getD_some]
      rw [List.getD_eq_getElem?_getD, List.getElem?_map, List.getElem?_range hj]; rfl
    unfold MF
    rw [e, cF_fin]) ht
/-- A graph's family is a matroid, and its independent sets are those of columns over any numbers. -/
theorem graph_mat {n : Nat} {E : List (Int × Int)} (h : CG n E) {K : List Nat} (hF : Fam E.length K) (hK : ∀ s, s ∈ K ↔ s < 2 ^ E.length ∧ GF E s ∧ ∀ t, t < 2 ^ E.length → GF E t → cnt E.length t ≤ cnt E.length s) :
    Mat E.length K ∧ ∀ (p : Nat) [NeZero p], Fld p → ∀ s, s < 2 ^ E.length → (Ind K s ↔ ColInd p (n - 1) E.length (gX p n E) s) := by
  have low : ∀ s t, Inc s t → t < 2 ^ E.length → GF E t → GF E s := fun s t a ht b => (gX_iff fld2 h (Nat.lt_of_le_of_lt (inc_le a) ht)).1 (ColInd.sub a ((gX_iff fld2 h ht).2 b))
  have hK2 : ∀ s, s ∈ K ↔ s < 2 ^ E.length ∧ (s < 2 ^ E.length ∧ GF E s) ∧ ∀ t, t < 2 ^ E.length → (t < 2 ^ E.length ∧ GF E t) → cnt E.length t ≤ cnt E.length s := fun s => (hK s).trans ⟨fun q => ⟨q.1, ⟨q.1, q.2.1⟩, fun t ht w => q.2.2 t ht w.2⟩, fun q => ⟨q.1, q.2.1.2, fun t ht w => q.2.2 t ht ⟨ht, w⟩⟩⟩
  have aug : ∀ I J, I < 2 ^ E.length → J < 2 ^ E.length → (I < 2 ^ E.length ∧ GF E I) → (J < 2 ^ E.length ∧ GF E J) → cnt E.length I < cnt E.length J → ∃ e, J.testBit e = true ∧ I.testBit e = false ∧ (I ||| 2 ^ e < 2 ^ E.length ∧ GF E (I ||| 2 ^ e)) := fun I J hI hJ a b c => by
    obtain ⟨e, e1, e2, e3⟩ := col_aug fld2 hI hJ ((gX_iff fld2 h hI).2 a.2) ((gX_iff fld2 h hJ).2 b.2) c
    have hlt : I ||| 2 ^ e < 2 ^ E.length := or_lt hI (Nat.pow_lt_pow_right (by omega) (bit_lt hJ e1))
    exact ⟨e, e1, e2, hlt, (gX_iff fld2 h hlt).1 e3⟩
  refine ⟨aug_mat (p := fun s => s < 2 ^ E.length ∧ GF E s) h.e8 hF hK2 ⟨Nat.pow_pos (by omega), GF0 E⟩ (fun s t a b => ⟨Nat.lt_of_le_of_lt (inc_le a) b.1, low s t a b.1 b.2⟩) aug, fun p _ hp s hs => ?_⟩
  rw [gX_iff hp h hs]
  constructor
  · rintro ⟨b, b1, b2⟩
    obtain ⟨c1, c2, _⟩ := (hK b).1 b1
    exact low s b b2 c1 c2
  · exact fun q => aug_in hK2 aug E.length s hs ⟨hs, q⟩ (by omega)
end Go.SH
