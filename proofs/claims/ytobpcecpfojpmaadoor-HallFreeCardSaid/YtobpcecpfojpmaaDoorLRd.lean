/-
  RADO: elements that are independent, each for a set; the search for the first such list. Conditions: at most eight elements and eight sets.
-/
import Derived.Test.YtobpcecpfojpmaaDoorLHs
import Derived.Test.YtobpcecpfojpmaaDoorLUd
set_option linter.unusedSimpArgs false
set_option linter.unusedVariables false
namespace Go.SH
open Go Go.AX

/-- From set k on, behind 'used': a list of elements, each one more of rank. -/
def Ext (R : Nat → Nat) (L : List Nat) : Nat → Nat → List Nat → Prop
  | k, _, [] => k = L.length
  | k, used, i :: e => k < L.length ∧ (L.getD k 0).testBit i = true ∧ R used < R (used ||| 2 ^ i) ∧ Ext R L (k + 1) (used ||| 2 ^ i) e
/-- The first one. -/
def Fst (R : Nat → Nat) (L : List Nat) : Nat → Nat → List Nat → Prop
  | k, _, [] => k = L.length
  | k, used, i :: e => k < L.length ∧ (L.getD k 0).testBit i = true ∧ R used < R (used ||| 2 ^ i) ∧ (∀ j, j < i → (L.getD k 0).testBit j = true → R used < R (used ||| 2 ^ j) → ¬ ∃ e, Ext R L (k + 1) (used ||| 2 ^ j) e) ∧ Fst R L (k + 1) (used ||| 2 ^ i) e
section
variable {R : Nat → Nat} {L : List Nat}
theorem Fst.ext : ∀ {e : List Nat} {k used : Nat}, Fst R L k used e → Ext R L k used e
  | [], _, _, h => h
  | i :: e, k, used, h => ⟨h.1, h.2.1, h.2.2.1, Fst.ext h.2.2.2.2⟩
theorem Fst.unique : ∀ {e f : List Nat} {k used : Nat}, Fst R L k used e → Fst R L k used f → e = f
  | [], [], _, _, _, _ => rfl
  | [], j :: f, k, used, h, g => by have := g.1; have : k = L.length := h; omega
  | i :: e, [], k, used, h, g => by have := h.1; have : k = L.length := g; omega
  | i :: e, j :: f, k, used, h, g => by
    rcases Nat.lt_trichotomy i j with c | c | c
    · exact absurd ⟨e, h.2.2.2.2.ext⟩ (g.2.2.2.1 i c h.2.1 h.2.2.1)
    · subst c; rw [Fst.unique h.2.2.2.2 g.2.2.2.2]
    · exact absurd ⟨f, g.2.2.2.2.ext⟩ (h.2.2.2.1 j c g.2.1 g.2.2.1)
theorem Ext.len : ∀ {e : List Nat} {k used : Nat}, Ext R L k used e → k + e.length = L.length
  | [], _, _, h => h
  | i :: e, k, used, h => by have := Ext.len h.2.2.2; simp only [List.length_cons]; omega
theorem Ext.congr {R' : Nat → Nat} {m : Nat} (hL : ∀ k, k < L.length → L.getD k 0 < 2 ^ m) (hR : ∀ s, s < 2 ^ m → R s = R' s) : ∀ {e : List Nat} {k used : Nat}, used < 2 ^ m → Ext R L k used e → Ext R' L k used e
  | [], _, _, _, h => h
  | i :: e, k, used, hu, h => by
    have hi := bit_lt (hL k h.1) h.2.1
    have hu' := or_lt hu (pow_lt hi)
    exact ⟨h.1, h.2.1, by rw [← hR _ hu, ← hR _ hu']; exact h.2.2.1, Ext.congr hL hR hu' h.2.2.2⟩
theorem Fst.congr {R' : Nat → Nat} {m : Nat} (hL : ∀ k, k < L.length → L.getD k 0 < 2 ^ m) (hR : ∀ s, s < 2 ^ m → R s = R' s) : ∀ {e : List Nat} {k used : Nat}, used < 2 ^ m → Fst R L k used e → Fst R' L k used e
  | [], _, _, _, h => h
  | i :: e, k, used, hu, h => by
    have hi := bit_lt (hL k h.1) h.2.1
    have hu' := or_lt hu (pow_lt hi)
    refine ⟨h.1, h.2.1, by rw [← hR _ hu, ← hR _ hu']; exact h.2.2.1, fun j hj hb hr => ?_, Fst.congr hL hR hu' h.2.2.2.2⟩
    have hj' := or_lt hu (pow_lt (bit_lt (hL k h.1) hb))
    rintro ⟨f, hf⟩
    exact h.2.2.2.1 j hj hb (by rw [hR _ hu, hR _ hj']; exact hr) ⟨f, hf.congr hL (fun s hs => (hR s hs).symm) hj'⟩
end

/-! ### the search -/
section
variable {m : Nat} {B L : List Nat}
theorem Rado1_spec (hM : Mat m B) (h : HOk m L) (m1 : Int) (l1 : List Int) : ∀ (fuel k used : Nat) (out : List Int), k ≤ L.length → L.length < fuel + k → used < 2 ^ m → out.length = k →
    Gets (hall_Rado_1 fuel (k : Int) (used : Int) (cs L) (m : Int) l1 (cs (rkL m B)) out) (fun r => (r.1 = true ∧ ∃ e : List Nat, r.2 = out ++ cs e ∧ Fst (rk m B) L k used e) ∨ (r.1 = false ∧ r.2 = out ∧ ¬ ∃ e, Ext (rk m B) L k used e))
  | 0, k, used, out, hk, hf, _, _ => absurd hf (by omega)
  | fuel + 1, k, used, out, hk, hf, hu, ho => by
    have hm8 := h.n8
    have hl8 := h.l8
    have hp8 := pow_le8 hm8
    rw [hall_Rado_1.eq_2]
    simp only [cs_len]
    refine gIte (fun q => gSome (.inl ⟨rfl, [], by simp [cs], show k = L.length by omega⟩)) fun q => ?_
    have hk' : k < L.length := by omega
    have hlk := h.lt k hk'
    refine gBind (R := fun z => match z with | .inl c => c = out ∧ ¬ ∃ e, Ext (rk m B) L k used e | .inr r => r.1 = true ∧ ∃ e : List Nat, r.2 = out ++ cs e ∧ Fst (rk m B) L k used e) (gFor m (fun j (x : List Int × Int) => x.2 = (j : Int) ∧ x.1 = out ∧ ∀ i, i < j → (L.getD k 0).testBit i = true → rk m B used < rk m B (used ||| 2 ^ i) → ¬ ∃ e, Ext (rk m B) L (k + 1) (used ||| 2 ^ i) e) (Nat.zero_le _) ⟨rfl, rfl, none_all⟩ ?_) ?_
    · rintro j ⟨o, _⟩ hj ⟨rfl, ho', hI⟩
      dsimp only at ho' hI ⊢
      have ho2 := ho'.symm
      subst ho2
      refine gIte (fun h1 => ?_) fun h1 => gSome ⟨rfl, ?_⟩
      rotate_left
      · rintro ⟨e, he⟩
        cases e with
        | nil => have : k = L.length := he; omega
        | cons i e => exact hI i (by have := bit_lt hlk he.2.1; omega) he.2.1 he.2.2.1 ⟨e, he.2.2.2⟩
      have hj' : j < m := by omega
      have huj := or_lt hu (pow_lt hj')
      simp only [toNat_nat, shl_nat', bitI, cs_get, or_nat]
      have e1 : (((if (L.getD k 0).testBit j = true then (1 : Int) else 0) = 1) ∧ (((rkL m B).getD used 0 : Nat) : Int) < (((rkL m B).getD (used ||| 2 ^ j) 0 : Nat) : Int)) ↔ ((L.getD k 0).testBit j = true ∧ rk m B used < rk m B (used ||| 2 ^ j)) := by
        rw [rkL_get m B hu, rkL_get m B huj]
        refine and_congr ?_ (by omega)
        cases (L.getD k 0).testBit j <;> simp
      refine gChk ⟨by omega, by omega, fun _ => by omega, fun _ => by rw [rkL_len]; omega, fun _ => by rw [rkL_len]; omega⟩ ?_
      refine gIte (fun h2 => ?_) fun h2 => gSome ⟨hj', by simp, rfl, step_all hI fun a b => absurd (e1.2 ⟨a, b⟩) h2⟩
      obtain ⟨h3, h4⟩ := e1.1 h2
      have hol : (out ++ [(j : Int)]).length = k + 1 := by rw [List.length_append]; simp only [List.length_cons, List.length_nil]; omega
      refine gChk (by omega) (gChk (by omega) ?_)
      have ek : ((k : Int) + 1) = ((k + 1 : Nat) : Int) := by simp
      rw [ek]
      refine gBind (Rado1_spec hM h m1 l1 fuel (k + 1) (used ||| 2 ^ j) (out ++ [(j : Int)]) hk' (by omega) huj hol) ?_
      rintro ⟨b, o⟩ (⟨rfl, e, rfl, he⟩ | ⟨rfl, rfl, hn⟩)
      · exact gIte (fun _ => gSome ⟨rfl, j :: e, by simp [cs], hk', h3, h4, hI, he⟩) fun q => absurd rfl q
      · refine gIte (fun q => by cases q) fun _ => gChk (by dsimp only; omega) (gSome ⟨hj', by simp, ?_, step_all hI fun _ _ => hn⟩)
        show List.take k (out ++ [(j : Int)]) = out
        rw [← ho, List.take_append_of_le_length (Nat.le_refl _), List.take_length]
    · rintro (c | r) hz
      · obtain ⟨rfl, hn⟩ := hz
        exact gSome (.inr ⟨rfl, rfl, hn⟩)
      · exact gSome (.inl hz)
theorem Rado_spec (hM : Mat m B) (h : HOk m L) : Gets (hall_Rado m (cs B) (cs L)) (fun r => (∃ e : List Nat, r = (cs e, 0) ∧ Fst (rk m B) L 0 0 e) ∨ (r = ([], 5) ∧ ¬ ∃ e, Ext (rk m B) L 0 0 e)) := by
  have hl8 := h.l8
  unfold hall_Rado
  refine gBindE hM.check (gIte (fun q => absurd rfl q) fun _ => gBindE h.check (gIte (fun q => absurd rfl q) fun _ => gBindE (axioms_Ranks_ok hM) ?_))
  refine gBind (Rado1_spec hM h (m : Int) (cs B) 12 0 0 [] (Nat.zero_le _) (by omega) (Nat.pow_pos (by omega)) rfl) ?_
  rintro ⟨b, o⟩ (⟨rfl, e, rfl, he⟩ | ⟨rfl, rfl, hn⟩)
  · exact gIte (fun q => absurd rfl q) fun _ => gSome (.inl ⟨e, by simp, he⟩)
  · exact gIte (fun _ => gSome (.inr ⟨rfl, hn⟩)) fun q => absurd (by simp) q

/-! ### what bars it -/
theorem RadoBar_spec (hM : Mat m B) (h : HOk m L) : Gets (hall_RadoBar m (cs B) (cs L)) (fun r => (r.2 = 0 ∧ ∃ s, s < 2 ^ L.length ∧ rk m B (nb m L s) < cnt L.length s) ∨ (r.2 = 5 ∧ ∀ s, s < 2 ^ L.length → cnt L.length s ≤ rk m B (nb m L s))) := by
  have hm8 := h.n8
  have hl8 := h.l8
  have hp8 := pow_le8 hm8
  have hq8 := pow_le8 hl8
  have hp2 : 0 < 2 ^ m := Nat.pow_pos (by omega)
  unfold hall_RadoBar
  refine gBindE hM.check (gIte (fun q => absurd rfl q) fun _ => gBindE h.check (gIte (fun q => absurd rfl q) fun _ => gBindE (axioms_Ranks_ok hM) ?_))
  simp only [cs_len, toNat_nat, shl_nat']
  refine gChk (by omega) (gBind (R := fun z => match z with | .inl _ => ∀ s, s < 2 ^ L.length → cnt L.length s ≤ rk m B (nb m L s) | .inr r => r.2 = 0 ∧ ∃ s, s < 2 ^ L.length ∧ rk m B (nb m L s) < cnt L.length s) (gFor (2 ^ L.length) (fun k v => v = (k : Int) ∧ ∀ s, s < k → cnt L.length s ≤ rk m B (nb m L s)) (Nat.zero_le _) ⟨rfl, none_all⟩ ?_) ?_)
  · rintro k _ hk ⟨rfl, hI⟩
    refine gIte (fun h1 => ?_) fun h1 => gSome fun s hs => hI s (by omega)
    have hk' : k < 2 ^ L.length := by omega
    refine gBind (R := fun v => v = ((nb m L k : Nat) : Int)) (gFor L.length (fun j (x : Int × Int) => x.2 = (j : Int) ∧ ∃ a : Nat, x.1 = (a : Int) ∧ ∀ y, a.testBit y = true ↔ ∃ v, v < j ∧ k.testBit v = true ∧ (L.getD v 0).testBit y = true) (Nat.zero_le _) ⟨rfl, 0, rfl, fun y => by simp⟩ ?_) ?_
    · rintro j ⟨_, _⟩ hj ⟨rfl, a, rfl, ha⟩
      dsimp only
      simp only [toNat_nat, shl_nat', bitI, cs_get]
      refine gIte (fun h2 => gChk (by omega) ?_) fun h2 => ?_
      · have hj' : j < L.length := by omega
        have hlj := h.lt j hj'
        cases hb : k.testBit j with
        | true =>
          simp only [if_true, Int.mul_one, or_nat]
          refine gChk (by omega) (gSome ⟨hj', by simp, a ||| L.getD j 0, rfl, fun y => ?_⟩)
          rw [Nat.testBit_or, Bool.or_eq_true, ha]
          constructor
          · rintro (⟨v, c1, c2⟩ | c)
            · exact ⟨v, by omega, c2⟩
            · exact ⟨j, by omega, hb, c⟩
          · rintro ⟨v, c1, c2, c3⟩
            rcases Nat.lt_succ_iff_lt_or_eq.1 c1 with c | c
            · exact .inl ⟨v, c, c2, c3⟩
            · subst c; exact .inr c3
        | false =>
          have e0 : ior (a : Int) 0 = (a : Int) := by
            have := or_nat a 0
            rw [Nat.or_zero] at this; exact this
          simp only [Bool.false_eq_true, if_false, Int.mul_zero, e0]
          refine gChk (by omega) (gSome ⟨hj', by simp, a, rfl, fun y => ?_⟩)
          rw [ha]
          constructor
          · rintro ⟨v, c1, c2⟩; exact ⟨v, by omega, c2⟩
          · rintro ⟨v, c1, c2, c3⟩
            rcases Nat.lt_succ_iff_lt_or_eq.1 c1 with c | c
            · exact ⟨v, c, c2, c3⟩
            · subst c; rw [hb] at c2; cases c2
      · have e : j = L.length := by omega
        subst e
        refine gSome (congrArg _ (bx fun y => ?_))
        rw [Bool.eq_iff_iff, ha, h.nb_bit]
    · rintro _ rfl
      have hn := nb_lt m L k
      simp only [toNat_nat, cs_get]
      refine gChk ⟨by rw [rkL_len]; omega, by omega⟩ (gBindE (oc_nat (by omega)) ?_)
      rw [size_of_lt hk' hl8]
      have e := rkL_get m B hn
      exact gIte (fun h2 => gSome ⟨rfl, k, hk', by omega⟩) fun h2 => gSome ⟨hk', by simp, step_all hI (by omega)⟩
  · rintro (u | r) hz
    · exact gSome (.inr ⟨rfl, hz⟩)
    · exact gSome (.inl hz)
end

/-! ### RADO -/
section
variable {m : Nat} {R : Nat → Nat} {L : List Nat}
/-- What is chosen, set by set. -/
theorem Ext.idx (hR : RkF R) (h : HOk m L) : ∀ {e : List Nat} {k used : Nat}, Ext R L k used e → ∀ q, q < e.length → (L.getD (k + q) 0).testBit (e.getD q 0) = true
  | [], _, _, _, q, hq => absurd hq (by simp)
  | i :: e, k, used, he, 0, _ => he.2.1
  | i :: e, k, used, he, q + 1, hq => by
    have := Ext.idx hR h he.2.2.2 q (by simpa using hq)
    rw [show k + (q + 1) = k + 1 + q by omega]; exact this
theorem Ext.free (hR : RkF R) (h : HOk m L) : ∀ {e : List Nat} {k used : Nat}, Ext R L k used e → used < 2 ^ m → R used = cnt m used → R (used ||| pre e e.length) = cnt m (used ||| pre e e.length) ∧ cnt m (used ||| pre e e.length) = cnt m used + e.length
  | [], k, used, he, hu, hr => by
    have : pre ([] : List Nat) 0 = 0 := rfl
    simp only [List.length_nil, this, Nat.or_zero]
    exact ⟨hr, rfl⟩
  | i :: e, k, used, he, hu, hr => by
    have hi := bit_lt (h.lt k he.1) he.2.1
    have hb : used.testBit i = false := by
      cases q : used.testBit i with
      | false => rfl
      | true =>
        have e0 : used ||| 2 ^ i = used := by rw [Nat.or_comm]; exact (or_eq_iff _ _).2 (inc_pow q)
        have e1 := he.2.2.1
        rw [e0] at e1
        omega
    have hc := cnt_add hi hb
    have hst := hR.step used i
    obtain ⟨a, b⟩ := Ext.free hR h he.2.2.2 (or_lt hu (pow_lt hi)) (by have := he.2.2.1; omega)
    have e1 : used ||| pre (i :: e) (i :: e).length = used ||| 2 ^ i ||| pre e e.length := by
      have key : ∀ n, pre (i :: e) (n + 1) = 2 ^ i ||| pre e n := fun n => by
        induction n with
        | zero => simp [pre]
        | succ n ih => rw [pre, ih, pre, Nat.or_assoc]; simp
      rw [List.length_cons, key, Nat.or_assoc]
    rw [e1]
    refine ⟨a, ?_⟩
    rw [b, hc, List.length_cons]; omega
theorem Ext.cond (hR : RkF R) (h : HOk m L) {e : List Nat} (he : Ext R L 0 0 e) : ∀ s, s < 2 ^ L.length → cnt L.length s ≤ R (nb m L s) := by
  intro s hs
  have hlen : e.length = L.length := by have := he.len; omega
  have hm8 := h.n8
  have hp8 : 2 ^ m ≤ 2 ^ 8 := Nat.pow_le_pow_right (by omega) hm8
  obtain ⟨f1, f2⟩ := he.free hR h (Nat.pow_pos (by omega)) (by rw [hR.zero, cnt_zero])
  rw [Nat.zero_or] at f1
  rw [Nat.zero_or, cnt_zero] at f2
  have hidx : ∀ q, q < L.length → (L.getD q 0).testBit (e.getD q 0) = true := fun q hq => by
    have := he.idx hR h q (by omega)
    rwa [Nat.zero_add] at this
  have hU : pre e e.length < 2 ^ m := lt_of_bits fun i hi => by
    cases q : (pre e e.length).testBit i with
    | false => rfl
    | true =>
      obtain ⟨j, j1, j2⟩ := (pre_bit e _ i).1 q
      have := bit_lt (h.lt j (by omega)) (hidx j (by omega))
      omega
  -- chosen ones differ
  have hinj : ∀ v w, v < L.length → w < L.length → e.getD v 0 = e.getD w 0 → v = w := by
    have hle : ∀ n, cnt m (pre e n) ≤ n := fun n => by
      induction n with
      | zero => simp [pre, cnt_zero]
      | succ n ih =>
        rw [pre]
        have h1 := cnt_or_and m (pre e n) (2 ^ e.getD n 0)
        have h2 : cnt m (2 ^ e.getD n 0) ≤ 1 := by
          rcases Nat.lt_or_ge (e.getD n 0) m with c | c
          · have := cnt_add (m := m) (s := 0) c (by simp)
            rw [Nat.zero_or, cnt_zero] at this; omega
          · have : cnt m (2 ^ e.getD n 0) = cnt m 0 := cnt_congr fun j hj => by rw [testBit_pow, decide_eq_false (by omega)]; simp
            rw [this, cnt_zero]; omega
        omega
    have hge : ∀ n d, n + d = e.length → n ≤ cnt m (pre e n) := fun n d => by
      induction d generalizing n with
      | zero => intro hd; rw [show n = e.length by omega]; omega
      | succ d ih =>
        intro hd
        have h0 := ih (n + 1) (by omega)
        rw [pre] at h0
        have h1 := cnt_or_and m (pre e n) (2 ^ e.getD n 0)
        have h2 : cnt m (2 ^ e.getD n 0) ≤ 1 := by
          rcases Nat.lt_or_ge (e.getD n 0) m with c | c
          · have := cnt_add (m := m) (s := 0) c (by simp)
            rw [Nat.zero_or, cnt_zero] at this; omega
          · have : cnt m (2 ^ e.getD n 0) = cnt m 0 := cnt_congr fun j hj => by rw [testBit_pow, decide_eq_false (by omega)]; simp
            rw [this, cnt_zero]; omega
        omega
    have key : ∀ v w, v < w → w < L.length → e.getD v 0 ≠ e.getD w 0 := fun v w hvw hw q => by
      have h1 := hge (w + 1) (e.length - (w + 1)) (by omega)
      have h2 := hle w
      have h3 : (pre e w).testBit (e.getD w 0) = true := (pre_bit e w _).2 ⟨v, hvw, q⟩
      have h4 : pre e (w + 1) = pre e w := by
        rw [pre, Nat.or_comm]; exact (or_eq_iff _ _).2 (inc_pow h3)
      rw [h4] at h1; omega
    intro v w hv hw q
    rcases Nat.lt_trichotomy v w with c | c | c
    · exact absurd q (key v w c hw)
    · exact c
    · exact absurd q.symm (key w v c hv)
  have hT : ∀ x, (mkset m fun x => (List.range L.length).any fun v => s.testBit v && decide (e.getD v 0 = x)).testBit x = true ↔ x < m ∧ ∃ v, v < L.length ∧ s.testBit v = true ∧ e.getD v 0 = x := fun x => by
    rw [mkset_bit, Bool.and_eq_true, decide_eq_true_eq, List.any_eq_true]
    refine and_congr Iff.rfl ⟨fun ⟨i, h1, h2⟩ => ?_, fun ⟨i, h1, h2, h3⟩ => ⟨i, List.mem_range.2 h1, by rw [h2, h3]; simp⟩⟩
    rw [Bool.and_eq_true, decide_eq_true_eq] at h2
    exact ⟨i, List.mem_range.1 h1, h2⟩
  have hTl : (mkset m fun x => (List.range L.length).any fun v => s.testBit v && decide (e.getD v 0 = x)) < 2 ^ m := mkset_lt m _
  generalize (mkset m fun x => (List.range L.length).any fun v => s.testBit v && decide (e.getD v 0 = x)) = T at hT hTl
  have h1 : R T = cnt 8 T := hR.free_in (J := pre e e.length) (by omega) (by rw [f1, cnt8 hm8 hU]) fun x hx => by
    obtain ⟨_, v, v1, _, v3⟩ := (hT x).1 hx
    exact (pre_bit e _ x).2 ⟨v, by omega, v3⟩
  rw [cnt8 hm8 hTl] at h1
  have h2 := cnt_inj (g := fun v => e.getD v 0) s hs T hTl (fun v hv => by
    have hvl := bit_lt hs hv
    exact (hT _).2 ⟨bit_lt (h.lt v hvl) (hidx v hvl), v, hvl, hv, rfl⟩) (fun v w hv hw q => hinj v w (bit_lt hs hv) (bit_lt hs hw) q)
  have h3 : R T ≤ R (nb m L s) := hR.mono _ _ fun x hx => by
    obtain ⟨_, v, v1, v2, v3⟩ := (hT x).1 hx
    exact (h.nb_bit s x).2 ⟨v, v1, v2, by rw [← v3]; exact hidx v v1⟩
  omega
/-- An element less in a set. -/
theorem rado_less (hR : RkF R) (h : HOk m L) (hC : ∀ s, s < 2 ^ L.length → cnt L.length s ≤ R (nb m L s)) {k x y : Nat} (hk : k < L.length) (hx : (L.getD k 0).testBit x = true) (hy : (L.getD k 0).testBit y = true) (hxy : x ≠ y) :
    (∀ s, s < 2 ^ L.length → cnt L.length s ≤ R (nb m (L.set k (dif (L.getD k 0) (2 ^ x))) s)) ∨ (∀ s, s < 2 ^ L.length → cnt L.length s ≤ R (nb m (L.set k (dif (L.getD k 0) (2 ^ y))) s)) := by
  have hset : ∀ z, HOk m (L.set k (dif (L.getD k 0) (2 ^ z))) := fun z => h.with (by rw [List.length_set]) fun j hj => by
    rw [getD_setN hk]
    split
    · rename_i c; subst c; exact inc_dif _ _
    · exact Inc.refl _
  -- a set of sets that fails has k, and without k it has little rank
  have bad : ∀ z, ¬ (∀ s, s < 2 ^ L.length → cnt L.length s ≤ R (nb m (L.set k (dif (L.getD k 0) (2 ^ z))) s)) → ∃ J, J < 2 ^ L.length ∧ J.testBit k = false ∧ R (nb m L J ||| dif (L.getD k 0) (2 ^ z)) ≤ cnt L.length J := by
    intro z hz
    obtain ⟨s, hs, hlt⟩ : ∃ s, s < 2 ^ L.length ∧ R (nb m (L.set k (dif (L.getD k 0) (2 ^ z))) s) < cnt L.length s := by
      rcases Classical.em (∃ s, s < 2 ^ L.length ∧ R (nb m (L.set k (dif (L.getD k 0) (2 ^ z))) s) < cnt L.length s) with c | c
      · exact c
      · exact absurd (fun s hs => by
          rcases Nat.lt_or_ge (R (nb m (L.set k (dif (L.getD k 0) (2 ^ z))) s)) (cnt L.length s) with d | d
          · exact absurd ⟨s, hs, d⟩ c
          · exact d) hz
    have hks : s.testBit k = true := by
      cases q : s.testBit k with
      | true => rfl
      | false =>
        exfalso
        have e : nb m (L.set k (dif (L.getD k 0) (2 ^ z))) s = nb m L s := bx fun x => by
          rw [Bool.eq_iff_iff, (hset z).nb_bit, h.nb_bit, List.length_set]
          refine exists_congr fun v => and_congr_right fun hv => and_congr_right fun hsv => ?_
          rw [getD_setN hk, if_neg (fun e => by subst e; rw [q] at hsv; cases hsv)]
        rw [e] at hlt
        have := hC s hs
        omega
    refine ⟨dif s (2 ^ k), dif_lt hs, by rw [testBit_dif, testBit_pow]; simp, ?_⟩
    have e : nb m L (dif s (2 ^ k)) ||| dif (L.getD k 0) (2 ^ z) = nb m (L.set k (dif (L.getD k 0) (2 ^ z))) s := bx fun x => by
      rw [Bool.eq_iff_iff, Nat.testBit_or, Bool.or_eq_true, (hset z).nb_bit, h.nb_bit, List.length_set]
      constructor
      · rintro (⟨v, v1, v2, v3⟩ | q)
        · rw [testBit_dif, testBit_pow, Bool.and_eq_true, Bool.not_eq_true', decide_eq_false_iff_not] at v2
          exact ⟨v, v1, v2.1, by rw [getD_setN hk, if_neg (fun e => v2.2 e.symm)]; exact v3⟩
        · exact ⟨k, hk, hks, by rw [getD_setN hk, if_pos rfl]; exact q⟩
      · rintro ⟨v, v1, v2, v3⟩
        rw [getD_setN hk] at v3
        split at v3
        · exact .inr v3
        · rename_i c
          exact .inl ⟨v, v1, by rw [testBit_dif, v2, testBit_pow]; simp; exact fun e => c e.symm, v3⟩
    rw [e]
    have := cnt_dif hs hks
    omega
  rcases Classical.em (∀ s, s < 2 ^ L.length → cnt L.length s ≤ R (nb m (L.set k (dif (L.getD k 0) (2 ^ x))) s)) with c | c
  · exact .inl c
  rcases Classical.em (∀ s, s < 2 ^ L.length → cnt L.length s ≤ R (nb m (L.set k (dif (L.getD k 0) (2 ^ y))) s)) with d | d
  · exact .inr d
  exfalso
  obtain ⟨J1, a1, a2, a3⟩ := bad x c
  obtain ⟨J2, b1, b2, b3⟩ := bad y d
  have s1 := hR.sub (nb m L J1 ||| dif (L.getD k 0) (2 ^ x)) (nb m L J2 ||| dif (L.getD k 0) (2 ^ y))
  have hnk : (J1 ||| J2).testBit k = false := by rw [Nat.testBit_or, a2, b2]; rfl
  have c1 := hC ((J1 ||| J2) ||| 2 ^ k) (or_lt (or_lt a1 b1) (pow_lt hk))
  have c2 := hC (J1 &&& J2) (and_lt a1)
  rw [cnt_add hk hnk] at c1
  have c3 := cnt_or_and L.length J1 J2
  have m1 : R (nb m L ((J1 ||| J2) ||| 2 ^ k)) ≤ R (nb m L J1 ||| dif (L.getD k 0) (2 ^ x) ||| (nb m L J2 ||| dif (L.getD k 0) (2 ^ y))) := hR.mono _ _ fun z hz => by
    obtain ⟨v, v1, v2, v3⟩ := (h.nb_bit _ z).1 hz
    rw [Nat.testBit_or, Nat.testBit_or, Bool.or_eq_true, Bool.or_eq_true, testBit_pow, decide_eq_true_eq] at v2
    rw [Nat.testBit_or, Nat.testBit_or, Nat.testBit_or, Bool.or_eq_true, Bool.or_eq_true, Bool.or_eq_true]
    rcases v2 with (v2 | v2) | v2
    · exact .inl (.inl ((h.nb_bit _ z).2 ⟨v, v1, v2, v3⟩))
    · exact .inr (.inl ((h.nb_bit _ z).2 ⟨v, v1, v2, v3⟩))
    · subst v2
      rcases Classical.em (z = x) with e | e
      · exact .inr (.inr (by rw [testBit_dif, v3, testBit_pow]; simp; omega))
      · exact .inl (.inr (by rw [testBit_dif, v3, testBit_pow]; simp; omega))
  have m2 : R (nb m L (J1 &&& J2)) ≤ R ((nb m L J1 ||| dif (L.getD k 0) (2 ^ x)) &&& (nb m L J2 ||| dif (L.getD k 0) (2 ^ y))) := hR.mono _ _ fun z hz => by
    obtain ⟨v, v1, v2, v3⟩ := (h.nb_bit _ z).1 hz
    rw [Nat.testBit_and, Bool.and_eq_true] at v2
    rw [Nat.testBit_and, Nat.testBit_or, Nat.testBit_or, (h.nb_bit J1 z).2 ⟨v, v1, v2.1, v3⟩, (h.nb_bit J2 z).2 ⟨v, v1, v2.2, v3⟩]; rfl
  omega
theorem set_self {k : Nat} (hk : k < L.length) : L.set k (L.getD k 0) = L := by
  apply List.ext_getElem?
  intro j
  rw [List.getElem?_set]
  split
  · rename_i c; subst c; rw [List.getD_eq_getElem?_getD, List.getElem?_eq_getElem hk]; rfl
  · rfl
/-- One set down to one element. -/
theorem rado_one (hR : RkF R) {k : Nat} : ∀ (n : Nat) (L : List Nat), HOk m L → (∀ s, s < 2 ^ L.length → cnt L.length s ≤ R (nb m L s)) → k < L.length → cnt m (L.getD k 0) ≤ n → ∃ x, (L.getD k 0).testBit x = true ∧ ∀ s, s < 2 ^ L.length → cnt L.length s ≤ R (nb m (L.set k (2 ^ x)) s)
  | n, L, h, hC, hk, hn => by
    have hlk := h.lt k hk
    have h1 := hC (2 ^ k) (pow_lt hk)
    have e1 : nb m L (2 ^ k) = L.getD k 0 := bx fun x => by
      rw [Bool.eq_iff_iff, h.nb_bit]
      constructor
      · rintro ⟨v, _, v2, v3⟩
        rw [testBit_pow, decide_eq_true_eq] at v2
        subst v2; exact v3
      · intro hx; exact ⟨k, hk, by rw [testBit_pow]; simp, hx⟩
    have e2 : cnt L.length (2 ^ k) = 1 := by
      have := cnt_add (m := L.length) (s := 0) hk (by simp)
      rwa [Nat.zero_or, cnt_zero] at this
    have hne : L.getD k 0 ≠ 0 := fun e => by rw [e1, e, hR.zero] at h1; omega
    obtain ⟨x, hx⟩ := exists_bit hne
    have hcx := cnt_dif hlk hx
    rcases Classical.em (dif (L.getD k 0) (2 ^ x) = 0) with c | c
    · refine ⟨x, hx, ?_⟩
      have e : 2 ^ x = L.getD k 0 := by
        have := dif_or hx
        rw [c, Nat.zero_or] at this; exact this
      rw [e, set_self hk]; exact hC
    · obtain ⟨y, hy⟩ := exists_bit c
      rw [testBit_dif, testBit_pow, Bool.and_eq_true, Bool.not_eq_true', decide_eq_false_iff_not] at hy
      have hcy := cnt_dif hlk hy.1
      match n, hn with
      | 0, hn => omega
      | n + 1, hn =>
        have step : ∀ z, (L.getD k 0).testBit z = true → cnt m (dif (L.getD k 0) (2 ^ z)) ≤ n → (∀ s, s < 2 ^ L.length → cnt L.length s ≤ R (nb m (L.set k (dif (L.getD k 0) (2 ^ z))) s)) → ∃ x, (L.getD k 0).testBit x = true ∧ ∀ s, s < 2 ^ L.length → cnt L.length s ≤ R (nb m (L.set k (2 ^ x)) s) := fun z hz hcz hCz => by
          have hset : HOk m (L.set k (dif (L.getD k 0) (2 ^ z))) := h.with (by rw [List.length_set]) fun j hj => by
            rw [getD_setN hk]
            split
            · rename_i c; subst c; exact inc_dif _ _
            · exact Inc.refl _
          obtain ⟨w, w1, w2⟩ := rado_one hR n (L.set k (dif (L.getD k 0) (2 ^ z))) hset (by rw [List.length_set]; exact hCz) (by rw [List.length_set]; exact hk) (by rw [getD_setN hk, if_pos rfl]; exact hcz)
          rw [getD_setN hk, if_pos rfl] at w1
          rw [List.length_set, List.set_set] at w2
          exact ⟨w, inc_dif _ _ w w1, w2⟩
        rcases rado_less hR h hC hk hx hy.1 hy.2 with d | d
        · exact step x hx (by omega) d
        · exact step y hy.1 (by omega) d
theorem rado_all (hR : RkF R) (h : HOk m L) (hC : ∀ s, s < 2 ^ L.length → cnt L.length s ≤ R (nb m L s)) : ∀ n, n ≤ L.length → ∃ L' : List Nat, L'.length = L.length ∧ (∀ j, j < n → ∃ x, (L.getD j 0).testBit x = true ∧ L'.getD j 0 = 2 ^ x) ∧ (∀ j, n ≤ j → L'.getD j 0 = L.getD j 0) ∧ (∀ s, s < 2 ^ L.length → cnt L.length s ≤ R (nb m L' s))
  | 0, _ => ⟨L, rfl, none_all, fun _ _ => rfl, hC⟩
  | n + 1, hn => by
    obtain ⟨L', l1, l2, l3, l4⟩ := rado_all hR h hC n (by omega)
    have hL' : HOk m L' := h.with l1 fun j hj => by
      rcases Nat.lt_or_ge j n with c | c
      · obtain ⟨x, x1, x2⟩ := l2 j c
        rw [x2]; exact inc_pow x1
      · rw [l3 j c]; exact Inc.refl _
    obtain ⟨x, x1, x2⟩ := rado_one hR (k := n) (cnt m (L'.getD n 0)) L' hL' (by rw [l1]; exact l4) (by omega) (Nat.le_refl _)
    rw [l3 n (Nat.le_refl _)] at x1
    rw [l1] at x2
    refine ⟨L'.set n (2 ^ x), by rw [List.length_set, l1], fun j hj => ?_, fun j hj => ?_, x2⟩
    · rw [getD_setN (by omega)]
      rcases Nat.lt_succ_iff_lt_or_eq.1 hj with c | c
      · rw [if_neg (by omega)]; exact l2 j c
      · subst c; exact ⟨x, x1, by rw [if_pos rfl]⟩
    · rw [getD_setN (by omega), if_neg (by omega)]; exact l3 j (by omega)
/-- RADO. -/
theorem rado (hR : RkF R) (h : HOk m L) (hC : ∀ s, s < 2 ^ L.length → cnt L.length s ≤ R (nb m L s)) : ∃ e, Ext R L 0 0 e := by
  obtain ⟨L', l1, l2, _, l4⟩ := rado_all hR h hC L.length (Nat.le_refl _)
  have hm8 := h.n8
  have hp8 : 2 ^ m ≤ 2 ^ 8 := Nat.pow_le_pow_right (by omega) hm8
  have ex : ∀ j, ∃ x, j < L.length → (L.getD j 0).testBit x = true ∧ L'.getD j 0 = 2 ^ x := fun j => by
    rcases Nat.lt_or_ge j L.length with c | c
    · obtain ⟨x, hx⟩ := l2 j c; exact ⟨x, fun _ => hx⟩
    · exact ⟨0, fun q => absurd q (by omega)⟩
  obtain ⟨g, hg⟩ := Classical.axiomOfChoice ex
  have hL' : HOk m L' := h.with l1 fun j hj => by rw [(hg j hj).2]; exact inc_pow (hg j hj).1
  have gm : ∀ j, j < L.length → g j < m := fun j hj => bit_lt (h.lt j hj) (hg j hj).1
  -- what the first ones choose
  have pg : ∃ u : Nat → Nat, u 0 = 0 ∧ (∀ k, u (k + 1) = u k ||| 2 ^ g k) ∧ ∀ k i, (u k).testBit i = true ↔ ∃ j, j < k ∧ g j = i := by
    refine ⟨fun k => Nat.rec 0 (fun k a => a ||| 2 ^ g k) k, rfl, fun k => rfl, fun k i => ?_⟩
    induction k with
    | zero => exact ⟨fun q => absurd q (by show ¬ (0 : Nat).testBit i = true; simp), fun ⟨j, h, _⟩ => absurd h (by omega)⟩
    | succ k ih =>
      show ((Nat.rec 0 (fun k a => a ||| 2 ^ g k) k : Nat) ||| 2 ^ g k).testBit i = true ↔ _
      rw [Nat.testBit_or, testBit_pow, Bool.or_eq_true, ih, decide_eq_true_eq]
      constructor
      · rintro (⟨j, h1, h2⟩ | h)
        · exact ⟨j, by omega, h2⟩
        · exact ⟨k, by omega, h⟩
      · rintro ⟨j, h1, h2⟩
        rcases Nat.lt_succ_iff_lt_or_eq.1 h1 with c | c
        · exact .inl ⟨j, c, h2⟩
        · subst c; exact .inr h2
  obtain ⟨u, u0, us, ub⟩ := pg
  have ul : ∀ k, k ≤ L.length → u k < 2 ^ m := fun k hk => lt_of_bits fun i hi => by
    cases q : (u k).testBit i with
    | false => rfl
    | true =>
      obtain ⟨j, j1, j2⟩ := (ub k i).1 q
      have := gm j (by omega)
      omega
  have hcl : ∀ k, k ≤ L.length → cnt m (u k) ≤ k := fun k => by
    induction k with
    | zero => intro _; rw [u0, cnt_zero]; omega
    | succ k ih =>
      intro hk
      have := ih (by omega)
      rw [us]
      have h1 := cnt_or_and m (u k) (2 ^ g k)
      have h2 := cnt_add (m := m) (s := 0) (gm k (by omega)) (by simp)
      rw [Nat.zero_or, cnt_zero] at h2
      omega
  have hge : ∀ k, k ≤ L.length → k ≤ R (u k) := fun k hk => by
    have hs : 2 ^ k - 1 < 2 ^ L.length := by
      have h1 : 2 ^ k ≤ 2 ^ L.length := Nat.pow_le_pow_right (by omega) hk
      have h2 : 0 < 2 ^ k := Nat.pow_pos (by omega)
      omega
    have := l4 (2 ^ k - 1) hs
    have e1 : cnt L.length (2 ^ k - 1) = k := by
      have hlt : 2 ^ k - 1 < 2 ^ k := by have h2 : 0 < 2 ^ k := Nat.pow_pos (by omega); omega
      rw [cnt_of_lt hlt hk]
      have := cpl_cnt (m := k) (s := 0)
      rw [cnt_zero] at this
      have e : cpl k 0 = 2 ^ k - 1 := set_ext (cpl_lt _ _) (full_lt k) fun i hi => by rw [cpl_bit, full_bit]; simp
      rw [e] at this; omega
    have e2 : nb m L' (2 ^ k - 1) = u k := bx fun i => by
      rw [Bool.eq_iff_iff, hL'.nb_bit, ub, l1]
      constructor
      · rintro ⟨v, v1, v2, v3⟩
        rw [full_bit, decide_eq_true_eq] at v2
        rw [(hg v v1).2, testBit_pow, decide_eq_true_eq] at v3
        exact ⟨v, v2, v3⟩
      · rintro ⟨j, j1, j2⟩
        exact ⟨j, by omega, by rw [full_bit]; simp [j1], by rw [(hg j (by omega)).2, testBit_pow, j2]; simp⟩
    rw [e1, e2] at this; exact this
  have hup : ∀ k, k ≤ L.length → R (u k) ≤ k := fun k hk => by
    have := hR.le (b := u k) (by have := ul k hk; omega)
    rw [cnt8 hm8 (ul k hk)] at this
    have := hcl k hk
    omega
  have key : ∀ d k, k + d = L.length → ∃ e, Ext R L k (u k) e := fun d => by
    induction d with
    | zero => intro k hk; exact ⟨[], hk⟩
    | succ d ih =>
      intro k hk
      obtain ⟨e, he⟩ := ih (k + 1) (by omega)
      refine ⟨g k :: e, by omega, (hg k (by omega)).1, ?_, by rw [← us]; exact he⟩
      rw [← us]
      have := hge (k + 1) (by omega)
      have := hup k (by omega)
      omega
  have := key L.length 0 (by omega)
  rw [u0] at this; exact this
end
end Go.SH
