/-
  The law GreedyBest: the best basis, its steps, the first basis by an order. Conditions: the lists' lengths.
-/
import Derived.Test.YtcjhpcbipcdhiaaLGa
import Derived.Test.YtcjhpcbipcdhiaaLSf
import Derived.Test.YtcjhpcbipcdhiaaSkGreedyBest
set_option linter.unusedSimpArgs false
set_option linter.unusedVariables false
namespace Go.SH
open Go Go.AX

theorem dif_zeroG (T : Nat) : dif T 0 = T := Nat.eq_of_testBit_eq fun j => by rw [testBit_dif]; simp
theorem Ord.of_inj {m : Nat} {L : List Nat} (hl : L.length = m) (lt : ∀ j, j < m → L.getD j 0 < m) (inj : ∀ i j, i < j → j < m → L.getD i 0 ≠ L.getD j 0) : Ord m L := by
  have key : ∀ k, k ≤ m → cnt m (pre L k) = k := by
    intro k
    induction k with
    | zero => intro _; exact cnt_zero m
    | succ k ih =>
      intro hk
      rw [pre, cnt_add (lt k (by omega)), ih (by omega)]
      cases hb : (pre L k).testBit (L.getD k 0)
      · rfl
      · obtain ⟨j, h1, h2⟩ := (pre_bit L k _).1 hb
        exact absurd h2 (inj j k h1 (by omega))
  exact ⟨hl, lt, inj, fun i hi => (pre_bit L m i).1 (cnt_full (key m (Nat.le_refl m)) i hi)⟩
/-! ### the steps -/
/-- What has been taken outweighs what is left. -/
def Dom (w : List Int) (O T : Nat) : Prop := ∀ x, O.testBit x = true → ∀ y, T.testBit y = true → O.testBit y = false → wf w y ≤ wf w x
structure StepL (m : Nat) (w : List Int) (T : Nat) (O : List Nat) : Prop where
  inc : ∀ j, j < O.length → Inc (O.getD j 0) T
  cnt : ∀ j, j < O.length → cnt m (O.getD j 0) = j
  dom : ∀ j, j < O.length → Dom w (O.getD j 0) T
theorem getD_app {O : List Nat} {x j : Nat} : (O ++ [x]).getD j 0 = if j < O.length then O.getD j 0 else if j = O.length then x else 0 := by
  rw [List.getD_eq_getElem?_getD, List.getElem?_append]
  split
  · rw [← List.getD_eq_getElem?_getD]
  · rename_i h
    split
    · rename_i e; subst e; simp
    · rename_i e
      rw [List.getElem?_eq_none (by simp; omega)]; rfl
theorem Steps_ok {m : Nat} {w : List Int} {T : Nat} {n : Int} {l : List Int} {y : Int × Int × Int} (hn : n = (m : Nat)) (h8 : m ≤ 8) (hW : WOk m w) (hT : T < 2 ^ m) (hy : greedy_Best n l w = some y) (h1 : y.2.2 = 0) (h2 : y.1 = (T : Int)) :
    Gets (greedy_Steps n l w) (fun r => r.2 = 0 ∧ ∃ O : List Nat, r.1 = cs O ∧ O.length = cnt m T + 1 ∧ O.getD (cnt m T) 0 = T ∧ StepL m w T O) := by
  subst hn
  have h256 := pow_le8 h8
  have hlw := hW.1
  unfold greedy_Steps
  refine gBindE hy (gIte (fun q => absurd h1 q) fun _ => ?_)
  rw [h2]
  refine gBind (R := fun o => ∃ O : List Nat, o = cs O ∧ O.length = cnt m T + 1 ∧ O.getD (cnt m T) 0 = T ∧ StepL m w T O) (gFor (cnt m T) (fun k (x : List Int × Int) => ∃ O : List Nat, x.1 = cs O ∧ O.length = k + 1 ∧ x.2 = ((dif T (O.getD k 0) : Nat) : Int) ∧ StepL m w T O) (Nat.zero_le _) ⟨[0], rfl, rfl, by rw [show ([0] : List Nat).getD 0 0 = 0 from rfl, dif_zeroG], ⟨fun j hj => ?_, fun j hj => ?_, fun j hj => ?_⟩⟩ ?_) fun o ho => gSome ⟨rfl, ho⟩
  · have : j = 0 := by simpa using hj
    subst this
    exact inc_zero T
  · have : j = 0 := by simpa using hj
    subst this
    exact cnt_zero m
  · have : j = 0 := by simpa using hj
    subst this
    intro x hx; simp at hx
  rintro k ⟨_, _⟩ hk ⟨O, rfl, hO, rfl, hS⟩
  have hki : k < O.length := by omega
  have hin := hS.inc k hki
  have hcn := hS.cnt k hki
  have hdo := hS.dom k hki
  have hOl := hin.lt hT
  generalize hP : O.getD k 0 = P at hin hcn hdo hOl
  have hDl : dif T P < 2 ^ m := dif_lt hT
  have hsplit := cnt_split m T P
  rw [Nat.and_comm, (sub_iff_and _ _).2 hin] at hsplit
  refine gIte (fun c => ?_) fun c => gSome ?_
  rotate_left
  · have e0 : dif T P = 0 := by simpa using c
    rw [e0, cnt_zero] at hsplit
    have : k = cnt m T := by omega
    subst this
    have : Inc T P := (sub_iff_dif _ _).1 e0
    exact ⟨O, rfl, hO, by rw [hP]; exact hin.antisymm this, hS⟩
  have hne : dif T P ≠ 0 := fun e => c (by rw [e]; rfl)
  obtain ⟨i0, hi0⟩ := exists_bit hne
  have hklt : k < cnt m T := by
    have := cnt_pos hDl hi0
    omega
  -- the greatest of what is left
  refine gBind (R := fun v => ∃ e : Nat, v = (e : Int) ∧ e < m ∧ (dif T P).testBit e = true ∧ ∀ x, (dif T P).testBit x = true → wf w x ≤ wf w e) (gFor m (fun i (x : Int × Int) => x.2 = (i : Int) ∧ ((x.1 = -1 ∧ ∀ j, j < i → (dif T P).testBit j = false) ∨ ∃ e : Nat, x.1 = (e : Int) ∧ e < i ∧ (dif T P).testBit e = true ∧ ∀ j, j < i → (dif T P).testBit j = true → wf w j ≤ wf w e)) (Nat.zero_le _) ⟨rfl, .inl ⟨rfl, fun j hj => absurd hj (Nat.not_lt_zero j)⟩⟩ ?_) ?_
  · rintro i ⟨v, _⟩ hi ⟨rfl, hv⟩
    simp only [toNat_nat, shl_nat', bitB] at hv ⊢
    refine gIte (fun h4 => ?_) fun h4 => gSome ?_
    rotate_left
    · have : i = m := by omega
      subst this
      rcases hv with ⟨_, q⟩ | ⟨e, q1, q2, q3, q4⟩
      · have := q i0 (bit_lt hDl hi0)
        rw [hi0] at this; cases this
      · exact ⟨e, q1, q2, q3, fun x hx => q4 x (bit_lt hDl hx) hx⟩
    have hi' : i < m := by omega
    cases hb : (dif T P).testBit i with
    | false =>
      refine gChk ⟨by omega, fun q => by simp at q, fun q => by simp at q⟩ (gIte (fun q => by simp at q) fun _ => gSome ⟨hi', by simp, ?_⟩)
      rcases hv with ⟨q1, q2⟩ | ⟨e, q1, q2, q3, q4⟩
      · refine .inl ⟨q1, fun j hj => ?_⟩
        rcases Nat.lt_succ_iff_lt_or_eq.1 hj with d | rfl
        · exact q2 j d
        · exact hb
      · refine .inr ⟨e, q1, by omega, q3, fun j hj hbj => ?_⟩
        rcases Nat.lt_succ_iff_lt_or_eq.1 hj with d | rfl
        · exact q4 j d hbj
        · rw [hb] at hbj; cases hbj
    | true =>
      rcases hv with ⟨rfl, q2⟩ | ⟨e, rfl, q2, q3, q4⟩
      · refine gChk ⟨by omega, fun q => absurd (by omega) q.2, fun q => absurd (by omega) q.2⟩ (gIte (fun _ => gSome ⟨hi', by simp, .inr ⟨i, rfl, by omega, hb, fun j hj hbj => ?_⟩⟩) fun q => absurd ⟨by simp, .inl (by omega)⟩ q)
        rcases Nat.lt_succ_iff_lt_or_eq.1 hj with d | rfl
        · rw [q2 j d] at hbj; cases hbj
        · exact Int.le_refl _
      · refine gChk ⟨by omega, fun _ => by omega, fun _ => by omega⟩ (gIte (fun q => gSome ⟨hi', by simp, .inr ⟨i, rfl, by omega, hb, fun j hj hbj => ?_⟩⟩) fun q => gSome ⟨hi', by simp, .inr ⟨e, rfl, by omega, q3, fun j hj hbj => ?_⟩⟩)
        · have hlt : wf w e < wf w i := by
            rcases q.2 with d | d
            · omega
            · simpa [wf, toNat_nat] using d
          rcases Nat.lt_succ_iff_lt_or_eq.1 hj with d | rfl
          · have := q4 j d hbj; omega
          · exact Int.le_refl _
        · rcases Nat.lt_succ_iff_lt_or_eq.1 hj with d | rfl
          · exact q4 j d hbj
          · have hge : ¬ wf w e < wf w j := fun d => q ⟨by simp, .inr (by simpa [wf, toNat_nat] using d)⟩
            omega
  rintro _ ⟨e, rfl, he, hbe, hmax⟩
  have hbe' := hbe
  rw [testBit_dif, Bool.and_eq_true, Bool.not_eq_true'] at hbe'
  have hp := pow_lt he
  have e1 : ((cs O).length : Int) - 1 = (k : Int) := by rw [cs_len]; omega
  simp only [e1, toNat_nat, shl_nat', cs_get, hP, or_nat, dif_nat]
  have hcsl : (cs O).length = k + 1 := by rw [cs_len, hO]
  have hcmT := cnt_le m T
  refine gChk (by omega) (gChk (by omega) (gChk (by omega) (gChk (by omega) (gChk (by rw [List.length_append, cs_len]; simp only [List.length_cons, List.length_nil]; have := cnt_le m T; omega) (gSome ⟨hklt, O ++ [P ||| 2 ^ e], cs_app _ _, by simp [hO], ?_, ?_⟩)))))
  · rw [getD_app, if_neg (by omega), if_pos hO.symm]
    have e2 : dif (dif T P) (2 ^ e) = dif T (P ||| 2 ^ e) := Nat.eq_of_testBit_eq fun j => by
      simp only [testBit_dif, Nat.testBit_or]
      cases T.testBit j <;> cases P.testBit j <;> cases (2 ^ e).testBit j <;> rfl
    show ((dif (dif T P) (2 ^ e) : Nat) : Int) = _
    rw [e2]
  · have hlen : (O ++ [P ||| 2 ^ e]).length = k + 2 := by simp [hO]
    refine ⟨fun j hj => ?_, fun j hj => ?_, fun j hj => ?_⟩
    all_goals rw [hlen] at hj; rw [getD_app]
    · split
      · rename_i c; exact hS.inc j c
      · rw [if_pos (by omega)]
        exact inc_or hin (inc_pow hbe'.1)
    · split
      · rename_i c; exact hS.cnt j c
      · rw [if_pos (by omega), cnt_add he hbe'.2]; omega
    · split
      · rename_i c; exact hS.dom j c
      · rw [if_pos (by omega)]
        intro x hx y hyT hyO
        rw [Nat.testBit_or, testBit_pow, Bool.or_eq_true, decide_eq_true_eq] at hx
        rw [Nat.testBit_or, Bool.or_eq_false_iff] at hyO
        rcases hx with d | rfl
        · exact hdo x d y hyT hyO.1
        · exact hmax y (by rw [testBit_dif, hyT, hyO.1]; rfl)
/-- No independent set of a size weighs more than the step of that size. -/
theorem step_best {m : Nat} {B : List Nat} (h : Mat m B) {w : List Int} (hW : WOk m w) {T : Nat} (hT : BestOf m B w T) {O : List Nat} (hS : StepL m w T O) {s : Nat} (hs : s < 2 ^ m) (hi : rk m B s = cnt m s) (hj : cnt m s < O.length) : wsum m (wf w) s ≤ wsum m (wf w) (O.getD (cnt m s) 0) := by
  have hin := hS.inc _ hj
  have hcn := hS.cnt _ hj
  have hdo := hS.dom _ hj
  generalize O.getD (cnt m s) 0 = P at hin hcn hdo
  rw [wsum_layer hW.2 s, wsum_layer hW.2 P, hcn]
  obtain ⟨b, hb, hsb⟩ := (h.ind_iff hs).2 hi
  have := sumN_le (n := 2000) (g := fun j => ((cnt m (s &&& upS m (wf w) j) : Nat) : Int)) (h := fun j => ((cnt m (P &&& upS m (wf w) j) : Nat) : Int)) fun j _ => by
    have c1 : cnt m (s &&& upS m (wf w) j) ≤ cnt m s := cnt_le_of_inc (inc_and_l _ _)
    have c2 : cnt m (s &&& upS m (wf w) j) ≤ cnt m (T &&& upS m (wf w) j) := by
      rw [hT.lay j]
      have c3 := le_rk (m := m) (s := upS m (wf w) j) hb
      have c4 : cnt m (s &&& upS m (wf w) j) ≤ cnt m (upS m (wf w) j &&& b) := cnt_le_of_inc fun i hi => by
        rw [Nat.testBit_and, Bool.and_eq_true] at hi
        rw [Nat.testBit_and, hi.2, hsb i hi.1]; rfl
      omega
    rcases Classical.em (Inc P (upS m (wf w) j)) with c | c
    · have e : P &&& upS m (wf w) j = P := (sub_iff_and _ _).2 c
      rw [e]; omega
    · obtain ⟨x, hx, hxu⟩ := not_inc c
      have hxm := bit_lt (hin.lt (h.lt T hT.mem)) hx
      have : cnt m (T &&& upS m (wf w) j) ≤ cnt m (P &&& upS m (wf w) j) := cnt_le_of_inc fun i hi => by
        rw [Nat.testBit_and, Bool.and_eq_true] at hi
        rw [Nat.testBit_and, hi.2, Bool.and_true]
        cases hP : P.testBit i
        · exfalso
          have d1 := hdo x hx i hi.1 hP
          have him := bit_lt (upS_lt m (wf w) j) hi.2
          have d2 := hi.2
          rw [upS_bit him, decide_eq_true_eq] at d2
          rw [upS_bit hxm, decide_eq_false_iff_not] at hxu
          omega
        · rfl
      omega
  omega

/-! ### the first basis -/
theorem First_spec {m : Nat} {B : List Nat} (h : Mat m B) (p : List Int) : Gets (greedy_First m (cs B) p) (fun r => (r.2 ≠ 0 ∧ r.1 = 0) ∨ (r.2 = 0 ∧ ∃ L T, p = cs L ∧ Ord m L ∧ r.1 = ((T : Nat) : Int) ∧ T < 2 ^ m ∧ rk m B T = cnt m T ∧ ∀ k, k ≤ m → cnt m (T &&& pre L k) = rk m B (pre L k))) := by
  have h8 := h.m8
  unfold greedy_First
  refine gBindE h.check (gIte (fun q => absurd rfl q) fun _ => ?_)
  refine gBind (R := fun z => match z with | .inl _ => (∀ k, k < p.length → 0 ≤ p.getD k 0 ∧ p.getD k 0 < m) ∧ (∀ k, k < p.length → ∀ j, j < k → p.getD j 0 ≠ p.getD k 0) | .inr r => r = (0, 1))
    (gFor p.length (fun k s => s.2 = (k : Int) ∧ (∃ t : Nat, s.1 = (t : Int) ∧ ∀ i, t.testBit i = true ↔ ∃ j, j < k ∧ p.getD j 0 = (i : Int)) ∧ (∀ k', k' < k → 0 ≤ p.getD k' 0 ∧ p.getD k' 0 < m) ∧ (∀ k', k' < k → ∀ j, j < k' → p.getD j 0 ≠ p.getD k' 0)) (Nat.zero_le _) ?_ ?_) ?_
  · exact ⟨rfl, ⟨0, rfl, fun i => by simp⟩, fun j hj => by omega, fun j hj => by omega⟩
  · rintro k ⟨sn, i⟩ hk ⟨rfl, ⟨t, rfl, ht⟩, h2, h3⟩
    simp only at h2 h3 ⊢
    refine gIte (fun h4 => gChk (by omega) (gChk (by simp only [toNat_nat]; omega) (gIte (fun h5 => gSome rfl) fun h5 => ?_))) fun h4 => gSome ⟨fun j hj => h2 j (by omega), fun j hj => h3 j (by omega)⟩
    simp only [toNat_nat] at h5 ⊢
    obtain ⟨a, ha⟩ := Int.eq_ofNat_of_zero_le (show 0 ≤ p.getD k 0 by omega)
    rw [ha, bit_nat] at h5
    simp only [ha, toNat_nat, shl_nat', or_nat]
    have hb : t.testBit a = false := by
      cases h : t.testBit a
      · rfl
      · rw [h] at h5; simp at h5
    refine gChk (by omega) (gSome ⟨by omega, by simp, ⟨_, rfl, fun i => ?_⟩, fun j hj => ?_, fun j hj l hl => ?_⟩)
    · rw [Nat.testBit_or, testBit_pow, Bool.or_eq_true, ht, decide_eq_true_eq]
      constructor
      · rintro (⟨j, h6, h7⟩ | rfl)
        · exact ⟨j, by omega, h7⟩
        · exact ⟨k, by omega, ha⟩
      · rintro ⟨j, h6, h7⟩
        rcases Nat.lt_or_ge j k with q | q
        · exact .inl ⟨j, q, h7⟩
        · have : j = k := by omega
          subst this; right; omega
    · rcases Nat.lt_or_ge j k with q | q
      · exact h2 j q
      · have : j = k := by omega
        subst this; omega
    · rcases Nat.lt_or_ge j k with q | q
      · exact h3 j q l hl
      · have : j = k := by omega
        subst this
        intro e
        have := (ht a).2 ⟨l, hl, by omega⟩
        rw [hb] at this; cases this
  rintro (u | rr) hz
  rotate_left
  · rw [hz]; exact gSome (.inl ⟨by simp, rfl⟩)
  obtain ⟨h2, h3⟩ := hz
  refine gIte (fun q => gSome (.inl ⟨by simp, rfl⟩)) fun q => ?_
  have hl : p.length = m := by omega
  have hp := cs_of fun k hk => (h2 k hk).1
  generalize p.map Int.toNat = L at hp
  subst hp
  rw [cs_len] at hl h2 h3
  have hO : Ord m L := Ord.of_inj hl (fun j hj => by
    have := h2 j (by omega)
    rw [cs_get] at this
    omega) fun i j hij hj e => by
    have := h3 j (by omega) i hij
    rw [cs_get, cs_get, e] at this
    exact this rfl
  refine gBind (taken_spec h hO) ?_
  rintro _ ⟨T, rfl, hT, hr, hj⟩
  exact gSome (.inr ⟨rfl, L, T, rfl, hO, rfl, hT, hr, hj⟩)

/-! ### the elements' places -/
/-- Each element's place, as its name. -/
structure Places (m : Nat) (L : List Nat) (p : List Int) : Prop where
  len : p.length = m
  at_ : ∀ j, j < m → p.getD (L.getD j 0) 0 = (j : Int)
theorem Image_spec {m : Nat} (h8 : m ≤ 8) {L : List Nat} (hO : Ord m L) {p : List Int} (hp : Places m L p) {s : Nat} (hs : s < 2 ^ m) : Gets (rotaref_Image p s) (fun r => ∃ a : Nat, r = (a : Int) ∧ a < 2 ^ m ∧ ∀ k, k ≤ m → cnt k a = cnt m (s &&& pre L k)) := by
  have h256 := pow_le8 h8
  have hlp := hp.len
  unfold rotaref_Image
  refine gBindE (rotaref_Elements_nat s) ?_
  have hle : (els s).length ≤ 8 := by rw [els_len]; exact cnt_le 8 s
  have hmem : ∀ j, j < (els s).length → (els s).getD j 0 < m := fun j hj => bit_lt hs ((els_mem (by omega)).1 (mem_getD.2 ⟨j, hj, rfl⟩))
  have hpl : ∀ x, x < m → ∃ j, j < m ∧ L.getD j 0 = x ∧ p.getD x 0 = (j : Int) := fun x hx => by
    obtain ⟨j, hj, e⟩ := hO.onto x hx
    exact ⟨j, hj, e, by rw [← e]; exact hp.at_ j hj⟩
  simp only [cs_len]
  refine gBind (R := fun o => ∃ a : Nat, o = (a : Int) ∧ a < 2 ^ m ∧ ∀ j, j < m → (a.testBit j = true ↔ s.testBit (L.getD j 0) = true)) (gFor (els s).length (fun k (x : Int × Int) => x.2 = (k : Int) ∧ ∃ a : Nat, x.1 = (a : Int) ∧ a < 2 ^ m ∧ ∀ j, j < m → (a.testBit j = true ↔ ∃ i, i < k ∧ (els s).getD i 0 = L.getD j 0)) (Nat.zero_le _) ⟨rfl, 0, rfl, Nat.pow_pos (by omega), fun j hj => by simp⟩ ?_) ?_
  · rintro k ⟨_, _⟩ hk ⟨rfl, a, rfl, ha, hb⟩
    simp only [toNat_nat, cs_get]
    refine gIte (fun h4 => ?_) fun h4 => gSome ⟨a, rfl, ha, fun j hj => ?_⟩
    · have hk' : k < (els s).length := by omega
      have hx := hmem k hk'
      obtain ⟨i, hi, e1, e2⟩ := hpl _ hx
      simp only [e2, toNat_nat, shl_nat', or_nat]
      refine gChk (by omega) (gSome ⟨hk', by simp, _, rfl, or_lt ha (pow_lt hi), fun j hj => ?_⟩)
      rw [Nat.testBit_or, testBit_pow, Bool.or_eq_true, hb j hj, decide_eq_true_eq]
      constructor
      · rintro (⟨i', q1, q2⟩ | rfl)
        · exact ⟨i', by omega, q2⟩
        · exact ⟨k, by omega, e1.symm⟩
      · rintro ⟨i', q1, q2⟩
        rcases Nat.lt_succ_iff_lt_or_eq.1 q1 with d | rfl
        · exact .inl ⟨i', d, q2⟩
        · right
          rw [← e1] at q2
          rcases Nat.lt_trichotomy i j with d | d | d
          · exact absurd q2 (hO.inj i j d hj)
          · exact d
          · exact absurd q2.symm (hO.inj j i d hi)
    · have e : k = (els s).length := by omega
      subst e
      rw [hb j hj, ← els_mem (by omega), mem_getD]
  rintro _ ⟨a, rfl, ha, hb⟩
  refine gSome ⟨a, rfl, ha, fun k hk => ?_⟩
  induction k with
  | zero => simp [cnt, pre, cnt_zero]
  | succ k ih =>
    have hlt := hO.lt k (by omega)
    have hnew := hO.pre_new (show k < m by omega)
    rw [cnt, ih (by omega)]
    have e : s &&& pre L (k + 1) = (s &&& pre L k) ||| if s.testBit (L.getD k 0) = true then 2 ^ L.getD k 0 else 0 := Nat.eq_of_testBit_eq fun j => by
      rw [pre, Nat.testBit_and, Nat.testBit_or, Nat.testBit_or, Nat.testBit_and, testBit_pow]
      by_cases c : L.getD k 0 = j
      · rw [← c]
        cases hs' : s.testBit (L.getD k 0)
        · simp
        · rw [if_pos rfl, testBit_pow, decide_eq_true rfl]; simp
      · rw [decide_eq_false c, Bool.or_false]
        split
        · rw [testBit_pow, decide_eq_false c, Bool.or_false]
        · simp
    rw [e]
    by_cases c : s.testBit (L.getD k 0) = true
    · rw [if_pos c, cnt_add hlt (by rw [Nat.testBit_and, hnew, Bool.and_false]), if_pos ((hb k (by omega)).2 c)]
    · rw [if_neg c, Nat.or_zero, if_neg fun q => c ((hb k (by omega)).1 q)]
      omega
theorem Below_ok {a b : Nat} (ha : a < 256) (hb : b < 256) (hs : size a = size b) (h : ∀ k, k ≤ 8 → cnt k b ≤ cnt k a) : sets_Below a b = some (true, 0) := by
  refine Gets.eq ?_
  unfold sets_Below
  refine gBindE (show sets_Check 8 a = some 0 from sets_Check_nat (m := 8) (by omega) ha) ?_
  rw [if_pos (by simp)]
  refine gBindE (show sets_Check 8 b = some 0 from sets_Check_nat (m := 8) (by omega) hb) (gIte (fun q => absurd q (by simp)) fun _ => ?_)
  refine gChk (by omega) (gBindE (show bits_OnesCount (a : Int) = some ((size a : Nat) : Int) by simp [bits_OnesCount, oc_size ha]) (gChk (by omega) (gBindE (show bits_OnesCount (b : Int) = some ((size b : Nat) : Int) by simp [bits_OnesCount, oc_size hb]) (gIte (fun q => absurd (by rw [hs]) q) fun _ => ?_))))
  refine gBind (R := fun z => match z with | .inl _ => True | .inr r => False) (gFor 8 (fun k (x : Int × Int) => x.2 = (k : Int) ∧ x.1 = ((cnt k a : Nat) : Int) - ((cnt k b : Nat) : Int)) (Nat.zero_le _) ⟨rfl, rfl⟩ ?_) ?_
  · rintro k ⟨_, _⟩ hk ⟨rfl, rfl⟩
    simp only [toNat_nat, shl_nat', bitB]
    refine gIte (fun h1 => ?_) fun h1 => gSome trivial
    have hk' : k < 8 := by omega
    have c1 := cnt_le k a
    have c2 := cnt_le k b
    have c3 := h (k + 1) (by omega)
    have e1 : ((cnt (k + 1) a : Nat) : Int) = (cnt k a : Nat) + if a.testBit k = true then 1 else 0 := by rw [cnt]; split <;> simp
    have e2 : ((cnt (k + 1) b : Nat) : Int) = (cnt k b : Nat) + if b.testBit k = true then 1 else 0 := by rw [cnt]; split <;> simp
    have e3 : ((cnt k a : Nat) : Int) - (cnt k b : Nat) + ((if a.testBit k = true then 1 else 0) - if b.testBit k = true then 1 else 0) = ((cnt (k + 1) a : Nat) : Int) - (cnt (k + 1) b : Nat) := by omega
    simp only [e3]
    have c4 := cnt_le (k + 1) a
    have c5 := cnt_le (k + 1) b
    refine gChk ⟨by omega, ?_, by omega⟩ (gIte (fun q => absurd q (by omega)) fun _ => gSome ⟨hk', by simp, rfl⟩)
    constructor <;> split <;> split <;> omega
  · rintro (u | rr) hz
    · exact gSome rfl
    · exact hz.elim
theorem rotakeep_GreedyBest_law (n : Int) (l w p : List Int) (hl : l.length ≤ 9223372036854775807) : rotakeep_GreedyBest n l w p = some true := by
  refine Gets.eq ?_
  unfold rotakeep_GreedyBest
  refine gBindE (show rotakeep_two = some (4, cs twoB) from rfl) (gBind (R := fun y => y.2.2 = 0 ∧ y.1 = 12 ∧ y.2.1 = 7) (Gets.mono (Best_spec 4 (cs twoB) [1, 2, 3, 4] (by decide)) ?_) ?_)
  · have hW4 : WOk 4 [1, 2, 3, 4] := ⟨rfl, fun i hi => by
      have : i = 0 ∨ i = 1 ∨ i = 2 ∨ i = 3 := by omega
      rcases this with rfl | rfl | rfl | rfl <;> exact ⟨by decide, by decide⟩⟩
    rintro y (⟨_, _, _, h⟩ | ⟨h1, m, B, h2, h3, hM, hW, T, h4, h5, hT⟩)
    · exact absurd ⟨4, twoB, rfl, rfl, mat_two, hW4⟩ h
    · have e1 : m = 4 := by omega
      have e2 : B = twoB := cs_inj h3.symm
      subst e1 e2
      have key := hT.le hM hW (b := 12) (by decide)
      have e3 : T = 12 := by
        have hm : T ∈ ([3, 5, 6, 9, 10, 12] : List Nat) := hT.mem
        have v12 : wsum 4 (wf [1, 2, 3, 4]) 12 = 7 := by decide
        rw [v12] at key
        simp only [List.mem_cons, List.not_mem_nil, or_false] at hm
        rcases hm with rfl | rfl | rfl | rfl | rfl | rfl
        · exact absurd key (by decide)
        · exact absurd key (by decide)
        · exact absurd key (by decide)
        · exact absurd key (by decide)
        · exact absurd key (by decide)
        · rfl
      subst e3
      exact ⟨h1, h4, h5.trans (by decide)⟩
  rintro ⟨_, _, _⟩ ⟨rfl, rfl, rfl⟩
  refine gIte (fun q => absurd q (by simp)) fun _ => ?_
  obtain ⟨y, hy, hspec⟩ := Best_spec n l w hl
  refine gBindE hy ?_
  rcases hspec with ⟨h1, h2, h3, _⟩ | ⟨h1, m, B, rfl, rfl, hM, hW, T, h4, h5, hT⟩
  · refine gBindE (show greedy_Steps n l w = some ([], y.2.2) by unfold greedy_Steps; rw [hy]; simp [h1]) (gIte (fun _ => gSome (decide_eq_true ⟨⟨⟨rfl, h2⟩, h3⟩, rfl⟩)) fun q => absurd h1 q)
  have h8 := hM.m8
  have h256 := pow_le8 h8
  have hlw := hW.1
  have hTl := hM.lt T hT.mem
  have hB := hM.len
  refine gBind (Steps_ok rfl h8 hW hTl hy h1 h4) ?_
  rintro ⟨_, _⟩ ⟨rfl, O, rfl, hO, hlast, hS⟩
  refine gIte (fun q => absurd h1 q) fun _ => ?_
  have hcm := cnt_le m T
  rw [if_pos (by simp), h4]
  refine gBindE (rotaref_Size_nat T) ?_
  rw [size_of_lt hTl h8]
  simp only [cs_len, hO]
  have e1 : ((cnt m T + 1 : Nat) : Int) - 1 = ((cnt m T : Nat) : Int) := by omega
  simp only [e1, toNat_nat, cs_get, hlast]
  refine gChk ⟨fun _ => by omega, fun _ => by omega, fun _ => by omega⟩ ?_
  rw [if_pos (by
    rintro ((q | q) | q)
    · exact q rfl
    · exact q (by omega)
    · exact q rfl)]
  refine gBindE (Weighs_nat h8 w (c := 1000) (by omega) hlw hW.2 hTl) ?_
  rw [if_pos (by
    rintro (((q | q) | q) | q)
    · exact q rfl
    · exact q (by omega)
    · exact q rfl
    · exact q h5.symm)]
  refine gBindE (slices_Contains_spec _ _ (by simp; omega)) (gIte (fun q => ?_) fun _ => ?_)
  · rcases q with (((q | q) | q) | q) | q
    · exact absurd rfl q
    · exact absurd (by omega) q
    · exact absurd rfl q
    · exact absurd h5.symm q
    · exact absurd (decide_eq_true ((cs_mem _ _).2 hT.mem)) q
  refine gBind (axioms_Independents_spec m (cs B) (by simp; omega)) ?_
  rintro ⟨_, _⟩ (⟨rfl, m', B', q1, q2, _, rfl⟩ | ⟨_, _, q⟩)
  rotate_left
  · exact absurd ⟨m, B, rfl, rfl, hM⟩ q
  have em : m' = m := by omega
  have eB : B' = B := cs_inj q2.symm
  subst em eB
  have hF : Fam m' ((List.range (2 ^ m')).filter fun s => rk m' B' s = cnt m' s) := filter_fam h8 _
  have hFl := hF.len
  generalize hFe : ((List.range (2 ^ m')).filter fun s => rk m' B' s = cnt m' s) = F at hF hFl
  have hFm : ∀ s, s ∈ F → s < 2 ^ m' ∧ rk m' B' s = cnt m' s := fun s hs => by
    rw [← hFe, List.mem_filter, List.mem_range] at hs
    exact ⟨hs.1, of_decide_eq_true hs.2⟩
  simp only [cs_len]
  refine gBind (R := fun z => match z with | .inl _ => True | .inr r => False) (gFor F.length (fun k v => v = (k : Int)) (Nat.zero_le _) rfl ?_) ?_
  · rintro k _ hk rfl
    simp only [toNat_nat, cs_get]
    refine gIte (fun h3 => gChk (by omega) ?_) fun h3 => gSome trivial
    have hk' : k < F.length := by omega
    obtain ⟨f1, f2⟩ := hFm _ (mem_getD.2 ⟨k, hk', rfl⟩)
    generalize F.getD k 0 = s at f1 f2
    have hcs : cnt m' s < O.length := by
      have := hM.rk_mono (s := s) (t := 2 ^ m' - 1) fun i hi => by rw [Nat.testBit_two_pow_sub_one]; simp [bit_lt f1 hi]
      have := hM.full_rk T hT.mem
      omega
    have key := step_best hM hW hT hS f1 f2 hcs
    refine gBindE (Weighs_nat h8 w (c := 1000) (by omega) hlw hW.2 f1) (gBindE (rotaref_Size_nat s) ?_)
    rw [size_of_lt f1 h8]
    simp only [toNat_nat, cs_get]
    have hOl := (hS.inc _ hcs).lt hTl
    refine gChk (by omega) (gBindE (Weighs_nat h8 w (c := 1000) (by omega) hlw hW.2 hOl) (gIte (fun q => absurd q (by omega)) fun _ => gSome ⟨hk', by simp⟩))
  rintro (u | rr) hz
  rotate_left
  · exact hz.elim
  refine gBind (First_spec hM p) ?_
  rintro ⟨_, _⟩ (⟨h6, h7⟩ | ⟨h6, L, S, rfl, hOL, h7, hSl, hSr, hSp⟩)
  · exact gIte (fun _ => gSome (decide_eq_true h7)) fun q => absurd h6 q
  simp only at h6 h7
  subst h6 h7
  refine gIte (fun q => absurd rfl q) fun _ => gChk (by omega) ?_
  simp only [cs_len, hOL.len]
  refine gBind (R := fun v => Places m' L v) (gFor m' (fun k (x : List Int × Int) => x.2 = (k : Int) ∧ x.1.length = m' ∧ ∀ j, j < k → x.1.getD (L.getD j 0) 0 = (j : Int)) (Nat.zero_le _) ⟨rfl, by simp, fun j hj => absurd hj (Nat.not_lt_zero j)⟩ ?_) ?_
  · rintro k ⟨v, _⟩ hk ⟨rfl, g1, g2⟩
    simp only at g1 g2
    simp only [toNat_nat, cs_get]
    refine gIte (fun h4 => ?_) fun h4 => gSome ⟨g1, fun j hj => g2 j (by omega)⟩
    have hk' : k < m' := by omega
    have hlt := hOL.lt k hk'
    refine gChk (by omega) (gChk (by omega) (gSome ⟨hk', by simp, by simpa using g1, fun j hj => ?_⟩))
    rw [set_getD _ (by omega)]
    rcases Nat.lt_succ_iff_lt_or_eq.1 hj with d | rfl
    · rw [if_neg (hOL.inj j k d hk')]; exact g2 j d
    · rw [if_pos rfl]
  intro v hv
  refine gBind (R := fun z => match z with | .inl _ => True | .inr r => False) (gFor B'.length (fun k v => v = (k : Int)) (Nat.zero_le _) rfl ?_) ?_
  · rintro k _ hk rfl
    simp only [toNat_nat, cs_get]
    refine gIte (fun h3 => gChk (by omega) ?_) fun h3 => gSome trivial
    have hk' : k < B'.length := by omega
    have hbm := mem_getD.2 ⟨k, hk', rfl⟩
    generalize B'.getD k 0 = b at hbm
    have hbl := hM.lt b hbm
    refine gBind (Image_spec h8 hOL hv hSl) ?_
    rintro _ ⟨a, rfl, ha, hac⟩
    refine gBind (Image_spec h8 hOL hv hbl) ?_
    rintro _ ⟨c, rfl, hc, hcc⟩
    have hle : ∀ k, k ≤ m' → cnt k c ≤ cnt k a := fun k hk => by
      rw [hac k hk, hcc k hk, hSp k hk, Nat.and_comm]
      exact le_rk hbm
    have hfull : cnt m' a = cnt m' c := by
      have a1 := hac m' (Nat.le_refl _)
      have a2 := hcc m' (Nat.le_refl _)
      have a3 := hSp m' (Nat.le_refl _)
      rw [hOL.pre_all] at a1 a2 a3
      have a4 : b &&& (2 ^ m' - 1) = b := (sub_iff_and _ _).2 fun i hi => by rw [Nat.testBit_two_pow_sub_one]; simp [bit_lt hbl hi]
      rw [a4, hM.full_rk b hbm] at a2
      omega
    refine gBindE (Below_ok (by omega) (by omega) (by rw [size_of_lt ha h8, size_of_lt hc h8, hfull]) fun k hk => ?_) (gIte (fun q => absurd q (by simp)) fun _ => gSome ⟨hk', by simp⟩)
    rcases Nat.le_total k m' with d | d
    · exact hle k d
    · rw [cnt_of_lt hc d, cnt_of_lt ha d]; omega
  · rintro (u | rr) hz
    · exact gSome rfl
    · exact hz.elim
end Go.SH
