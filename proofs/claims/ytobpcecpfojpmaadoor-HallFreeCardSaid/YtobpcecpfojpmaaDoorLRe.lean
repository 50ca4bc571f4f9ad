/-
  The first list of elements, each for a set, as hall.Stand finds it. Conditions: at most eight elements and eight sets.
-/
import Derived.Test.YtobpcecpfojpmaaDoorLRd
set_option linter.unusedSimpArgs false
set_option linter.unusedVariables false
namespace Go.SH
open Go Go.AX

theorem pre_cons (i : Nat) (e : List Nat) : ∀ n, pre (i :: e) (n + 1) = 2 ^ i ||| pre e n := fun n => by
  induction n with
  | zero => simp [pre]
  | succ n ih => rw [pre, ih, pre, Nat.or_assoc]; simp
theorem Ext.new {R : Nat → Nat} {L : List Nat} : ∀ {e : List Nat} {k used : Nat}, Ext R L k used e → ∀ q, q < e.length → (used ||| pre e q).testBit (e.getD q 0) = false
  | [], _, _, _, q, hq => absurd hq (by simp)
  | i :: e, k, used, he, 0, _ => by
    show (used ||| 0).testBit i = false
    rw [Nat.or_zero]
    cases q : used.testBit i with
    | false => rfl
    | true =>
      have e0 : used ||| 2 ^ i = used := by rw [Nat.or_comm]; exact (or_eq_iff _ _).2 (inc_pow q)
      have e1 := he.2.2.1
      rw [e0] at e1
      omega
  | i :: e, k, used, he, q + 1, hq => by
    have := Ext.new he.2.2.2 q (by simpa using hq)
    rw [pre_cons, ← Nat.or_assoc]
    exact this
section
variable {m : Nat} {L : List Nat}
/-- No list begins so and goes on with x. -/
def NoG (L out : List Nat) (j x : Nat) : Prop := ¬ ∃ g : Nat → Nat, (∀ v, v < j → g v = out.getD v 0) ∧ g j = x ∧ (∀ v, v < L.length → (L.getD v 0).testBit (g v) = true) ∧ ∀ v w, v < L.length → w < L.length → g v = g w → v = w
theorem fst_of_noG (h : HOk m L) {out : List Nat} (ho : out.length = L.length) (h1 : ∀ j, j < L.length → (L.getD j 0).testBit (out.getD j 0) = true) (h2 : ∀ i j, i < L.length → j < L.length → out.getD i 0 = out.getD j 0 → i = j)
    (h3 : ∀ j, j < L.length → ∀ x, x < out.getD j 0 → (L.getD j 0).testBit x = true → NoG L out j x) : ∀ (d k : Nat), k + d = L.length → Fst (cnt m) L k (pre out k) (out.drop k)
  | 0, k, hk => by
    rw [List.drop_of_length_le (by omega)]
    exact hk
  | d + 1, k, hk => by
    have hk' : k < L.length := by omega
    have e0 : out.drop k = out.getD k 0 :: out.drop (k + 1) := by
      rw [List.drop_eq_getElem_cons (show k < out.length by omega), List.getD_eq_getElem?_getD, List.getElem?_eq_getElem (by omega)]; rfl
    have ih := fst_of_noG h ho h1 h2 h3 d (k + 1) (by omega)
    rw [e0]
    have hnew : (pre out k).testBit (out.getD k 0) = false := by
      cases q : (pre out k).testBit (out.getD k 0) with
      | false => rfl
      | true =>
        obtain ⟨j, j1, j2⟩ := (pre_bit out k _).1 q
        have := h2 j k (by omega) hk' j2
        omega
    have hi := bit_lt (h.lt k hk') (h1 k hk')
    refine ⟨hk', h1 k hk', by rw [cnt_add hi hnew]; omega, fun x hx hb hr => ?_, ih⟩
    rintro ⟨e, he⟩
    have hxm := bit_lt (h.lt k hk') hb
    have hxn : (pre out k).testBit x = false := by
      cases q : (pre out k).testBit x with
      | false => rfl
      | true =>
        have e1 : pre out k ||| 2 ^ x = pre out k := by rw [Nat.or_comm]; exact (or_eq_iff _ _).2 (inc_pow q)
        rw [e1] at hr; omega
    have hel := he.len
    have hen := he.new
    have hidx : ∀ {e : List Nat} {k used : Nat}, Ext (cnt m) L k used e → ∀ q, q < e.length → (L.getD (k + q) 0).testBit (e.getD q 0) = true := by
      intro e
      induction e with
      | nil => intro k used _ q hq; exact absurd hq (by simp)
      | cons i e ih =>
        intro k used he q hq
        match q, hq with
        | 0, _ => exact he.2.1
        | q + 1, hq =>
          have := ih he.2.2.2 q (by simpa using hq)
          rw [show k + (q + 1) = k + 1 + q by omega]; exact this
    have hei := hidx he
    -- what is chosen behind k is new
    have old : ∀ q, q < e.length → (∀ v, v < k → out.getD v 0 ≠ e.getD q 0) ∧ x ≠ e.getD q 0 ∧ ∀ p, p < q → e.getD p 0 ≠ e.getD q 0 := fun q hq => by
      have := hen q hq
      rw [Nat.testBit_or, Nat.testBit_or, Bool.or_eq_false_iff, Bool.or_eq_false_iff, testBit_pow, decide_eq_false_iff_not] at this
      refine ⟨fun v hv hq2 => ?_, this.1.2, fun p hp hq2 => ?_⟩
      · rw [(pre_bit out k _).2 ⟨v, hv, hq2⟩] at this; cases this.1.1
      · rw [(pre_bit e q _).2 ⟨p, hp, hq2⟩] at this; cases this.2
    refine h3 k hk' x hx hb ⟨fun v => if v < k then out.getD v 0 else if v = k then x else e.getD (v - (k + 1)) 0, fun v hv => if_pos hv, by simp, fun v hv => ?_, ?_⟩
    · rcases Nat.lt_trichotomy v k with c | c | c
      · simp only [if_pos c]; exact h1 v hv
      · subst c; simp only [Nat.lt_irrefl, if_false, if_true]; exact hb
      · simp only [if_neg (show ¬ v < k by omega), if_neg (show ¬ v = k by omega)]
        have := hei (v - (k + 1)) (by omega)
        rwa [show k + 1 + (v - (k + 1)) = v by omega] at this
    · have key : ∀ v w, v < w → w < L.length → (if v < k then out.getD v 0 else if v = k then x else e.getD (v - (k + 1)) 0) ≠ (if w < k then out.getD w 0 else if w = k then x else e.getD (w - (k + 1)) 0) := fun v w hvw hw => by
        rcases Nat.lt_trichotomy w k with c | c | c
        · rw [if_pos (show v < k by omega), if_pos c]
          intro q
          have := h2 v w (by omega) hw q
          omega
        · subst c
          rw [if_pos hvw, if_neg (Nat.lt_irrefl _), if_pos rfl]
          intro q
          rw [(pre_bit out w x).2 ⟨v, hvw, q⟩] at hxn; cases hxn
        · rw [if_neg (show ¬ w < k by omega), if_neg (show ¬ w = k by omega)]
          obtain ⟨a, b, cc⟩ := old (w - (k + 1)) (by omega)
          rcases Nat.lt_trichotomy v k with d | d | d
          · rw [if_pos d]; exact a v d
          · subst d; rw [if_neg (Nat.lt_irrefl _), if_pos rfl]; exact b
          · rw [if_neg (show ¬ v < k by omega), if_neg (show ¬ v = k by omega)]
            exact cc (v - (k + 1)) (by omega)
      intro v w hv hw q
      rcases Nat.lt_trichotomy v w with c | c | c
      · exact absurd q (key v w c hw)
      · exact c
      · exact absurd q.symm (key w v c hv)
theorem Stand_first (h : HOk m L) : Gets (hall_Stand m (cs L)) (fun r => (r = ([], 5) ∧ ¬ Full L) ∨ (Full L ∧ ∃ out : List Nat, r = (cs out, 0) ∧ Fst (cnt m) L 0 0 out)) := by
  have hm8 := h.n8
  have hl8 := h.l8
  have hp8 := pow_le8 hm8
  unfold hall_Stand
  refine gBindE h.check (gIte (fun q => absurd rfl q) fun _ => gBind (matched_full h) fun r hr => ?_)
  simp only [cs_len]
  refine gIte (fun q => gSome (.inl ⟨rfl, fun z => by have := hr.1.2 z; omega⟩)) fun q => ?_
  have hF : Full L := hr.1.1 (by have := hr.2; omega)
  refine gChk (by omega) (gBind (R := fun v3 => ∃ out : List Nat, v3 = cs out ∧ Fst (cnt m) L 0 0 out)
    (gFor L.length (fun k (x : List Int × List Int × Int) => x.2.2 = (k : Int) ∧ ∃ O out : List Nat, x.1 = cs O ∧ x.2.1 = cs out ∧ O.length = L.length ∧ out.length = k ∧ Full O ∧ (∀ j, j < L.length → Inc (O.getD j 0) (L.getD j 0)) ∧ (∀ j, j < k → O.getD j 0 = 2 ^ (out.getD j 0)) ∧ (∀ j, k ≤ j → O.getD j 0 = L.getD j 0) ∧ ∀ j, j < k → ∀ x, x < out.getD j 0 → (L.getD j 0).testBit x = true → NoG L out j x) (Nat.zero_le _)
      ⟨rfl, L, [], rfl, rfl, rfl, rfl, hF, fun j _ => Inc.refl _, none_all, fun _ _ => rfl, none_all⟩ ?_) ?_)
  · rintro k ⟨_, _, _⟩ hk ⟨rfl, O, out, rfl, rfl, o1, o2, ⟨g, g1, g2⟩, o4, o5, o6, o7⟩
    dsimp only
    refine gIte (fun h1 => ?_) fun h1 => ?_
    rotate_left
    · have e : k = L.length := by omega
      subst e
      have hg : ∀ j, j < L.length → g j = out.getD j 0 := fun j hj => by
        have := g1 j (by omega)
        rw [o5 j hj, testBit_pow, decide_eq_true_eq] at this
        exact this.symm
      refine gSome ⟨out, rfl, ?_⟩
      have := fst_of_noG h o2 (fun j hj => o4 j hj _ (by rw [o5 j hj, testBit_pow]; simp)) (fun i j hi hj e => g2 i j (by omega) (by omega) (by rw [hg i hi, hg j hj, e])) o7 L.length 0 (by omega)
      exact this
    have hk' : k < L.length := by omega
    simp only [toNat_nat, cs_len, cs_get]
    refine gChk (by omega) ?_
    have hOk := h.with o1 o4
    have hOk8 := hOk.lt k (by omega)
    refine gBind (R := fun v6 => ∃ i, v6 = cs (O.set k (2 ^ i)) ∧ (O.getD k 0).testBit i = true ∧ Full (O.set k (2 ^ i)) ∧ ∀ x, x < i → (O.getD k 0).testBit x = true → ¬ Full (O.set k (2 ^ x))) (gLoop (fun (x : List Int × Int) => ∃ (O' : List Nat) (s : Nat), x.1 = cs O' ∧ x.2 = (s : Int) ∧ O'.length = L.length ∧ (∀ y, O'.set k y = O.set k y) ∧ Inc s (O.getD k 0) ∧ Full (O.set k s) ∧ ∀ x, (O.getD k 0).testBit x = true → s.testBit x = true ∨ ¬ Full (O.set k (2 ^ x))) (fun x => x.2.toNat) ⟨O, O.getD k 0, rfl, rfl, o1, fun _ => rfl, Inc.refl _, ⟨g, fun v hv => ?_, fun v w hv hw e => g2 v w (by simpa using hv) (by simpa using hw) e⟩, fun x hx => .inl hx⟩ ?_) ?_
    · rw [List.length_set] at hv
      rw [getD_setN (by omega)]
      split
      · rename_i c; subst c; exact g1 _ hv
      · exact g1 _ hv
    · rintro ⟨_, _⟩ ⟨O', s, rfl, rfl, p1, p2, p3, ⟨f, f1, f2⟩, p4⟩
      dsimp only
      have hs := p3.lt hOk8
      have hsf := f1 k (by rw [List.length_set]; omega)
      rw [getD_setN (by omega), if_pos rfl] at hsf
      have hs0 : s ≠ 0 := fun e => by rw [e] at hsf; simp at hsf
      have hlow := low_spec (t := s) (by omega) hs0
      generalize lo1 s = i at hlow
      have hi := bit_lt hs hlow.bit
      have hil : 2 ^ i < 2 ^ m := pow_lt hi
      simp only [hlow.neg, hlow.rest, cs_set, p2, cs_len]
      have hOk' : HOk m (O.set k (2 ^ i)) := h.with (by rw [List.length_set, o1]) fun j hj => by
        rw [getD_setN (by omega)]
        split
        · rename_i c; subst c; exact (inc_pow (p3 i hlow.bit)).trans (o4 j hj)
        · exact o4 j hj
      refine gChk (by omega) (gBind (matched_full hOk') fun y hy => ?_)
      rw [List.length_set, o1] at hy
      refine gIte (fun h2 => gSome ⟨i, rfl, p3 i hlow.bit, hy.1.1 h2, fun x hx hb => ?_⟩) fun h2 => gChk (by omega) (gSome ⟨⟨O.set k (2 ^ i), dif s (2 ^ i), rfl, rfl, by rw [List.length_set]; exact o1, fun y => List.set_set .., (inc_dif _ _).trans p3, ⟨f, fun v hv => ?_, fun v w hv hw e => f2 v w (by simpa using hv) (by simpa using hw) e⟩, fun x hx => ?_⟩, by simpa using hlow.less⟩)
      · rcases p4 x hb with q | q
        · rw [hlow.least x hx] at q; cases q
        · exact q
      · rw [List.length_set] at hv
        have f3 := f1 v (by rw [List.length_set]; exact hv)
        rw [getD_setN (by omega)] at f3 ⊢
        split
        · rename_i c
          rw [if_pos c] at f3
          rw [testBit_dif, f3, testBit_pow]
          have : i ≠ f v := fun e => h2 (hy.1.2 ⟨f, fun w hw => by
            rw [List.length_set] at hw
            have f4 := f1 w (by rw [List.length_set]; exact hw)
            rw [getD_setN (by omega)] at f4 ⊢
            split
            · rename_i d
              have : w = v := by omega
              subst this
              rw [testBit_pow]; simp [e]
            · rename_i d; rw [if_neg d] at f4; exact f4, fun v w hv hw e => f2 v w (by simpa using hv) (by simpa using hw) e⟩)
          simp [this]
        · rename_i c; rw [if_neg c] at f3; exact f3
      · rcases p4 x hx with q | q
        · rcases Classical.em (x = i) with c | c
          · subst c; exact .inr fun z => h2 (hy.1.2 z)
          · exact .inl (by rw [testBit_dif, q, testBit_pow]; simp; exact fun e => c e.symm)
        · exact .inr q
    · rintro _ ⟨i, rfl, q1, q2, q3⟩
      have hi := bit_lt hOk8 q1
      have hi8 : i < 8 := by omega
      have hil : 2 ^ i < 2 ^ 8 := pow_lt hi8
      have e1 : (cs (O.set k (2 ^ i))).getD k 0 = ((2 ^ i : Nat) : Int) := by rw [cs_get, getD_setN (by omega), if_pos rfl]
      have e2 : 0 ≤ (cs (O.set k (2 ^ i))).getD k 0 ∧ (cs (O.set k (2 ^ i))).getD k 0 ≤ 18446744073709551615 := by
        rw [e1]
        generalize 2 ^ i = z at hil
        omega
      refine gChk ⟨by rw [cs_len, List.length_set]; omega, e2⟩ ?_
      rw [e1, tz_pow hi8, Option.bind_some]
      have elast : (out ++ [i]).getD k 0 = i := by
        have := app_lastN (L := out) (a := i)
        rwa [o2] at this
      have eold : ∀ j, j < k → (out ++ [i]).getD j 0 = out.getD j 0 := fun j hj => app_getN (by omega)
      refine gChk (by rw [List.length_append, cs_len]; simp only [List.length_cons, List.length_nil]; omega) (gSome ⟨hk', by simp, O.set k (2 ^ i), out ++ [i], rfl, cs_app _ _, by rw [List.length_set]; exact o1, by rw [List.length_append]; simp only [List.length_cons, List.length_nil]; omega, q2, fun j hj => ?_, step_all (fun j hj => ?_) ?_, fun j hj => ?_, step_all (fun j hj x hx hb => ?_) fun x hx hb => ?_⟩)
      · rw [getD_setN (by omega)]
        split
        · rename_i c; subst c; exact (inc_pow q1).trans (o4 j hj)
        · exact o4 j hj
      · rw [getD_setN (by omega), if_neg (by omega), eold j hj]; exact o5 j hj
      · rw [getD_setN (by omega), if_pos rfl, elast]
      · rw [getD_setN (by omega), if_neg (by omega)]; exact o6 j (by omega)
      · rw [eold j hj] at hx
        rintro ⟨g, a, b⟩
        exact o7 j hj x hx hb ⟨g, fun v hv => by rw [a v hv, eold v (by omega)], b⟩
      · rw [elast] at hx
        rw [← o6 k (Nat.le_refl _)] at hb
        rintro ⟨g, a, b, c, d⟩
        refine q3 x hx hb ⟨g, fun v hv => ?_, fun v w hv hw e => d v w (by rw [List.length_set] at hv; omega) (by rw [List.length_set] at hw; omega) e⟩
        rw [List.length_set] at hv
        rw [getD_setN (by omega)]
        split
        · rename_i z; subst z; rw [b, testBit_pow]; simp
        · rename_i z
          rcases Nat.lt_or_ge v k with y | y
          · rw [o5 v y, a v y, eold v y, testBit_pow]; simp
          · rw [o6 v y]; exact c v (by omega)
  · rintro _ ⟨out, rfl, a1⟩
    exact gSome (.inr ⟨hF, out, rfl, a1⟩)
theorem full_of_ext (h : HOk m L) {e : List Nat} (he : Ext (cnt m) L 0 0 e) : Full L := by
  have hel := he.len
  have hen := he.new
  have hidx : ∀ {e : List Nat} {k used : Nat}, Ext (cnt m) L k used e → ∀ q, q < e.length → (L.getD (k + q) 0).testBit (e.getD q 0) = true := by
    intro e
    induction e with
    | nil => intro k used _ q hq; exact absurd hq (by simp)
    | cons i e ih =>
      intro k used he q hq
      match q, hq with
      | 0, _ => exact he.2.1
      | q + 1, hq =>
        have := ih he.2.2.2 q (by simpa using hq)
        rw [show k + (q + 1) = k + 1 + q by omega]; exact this
  refine ⟨fun v => e.getD v 0, fun v hv => by have := hidx he v (by omega); rwa [Nat.zero_add] at this, ?_⟩
  have key : ∀ v w, v < w → w < L.length → e.getD v 0 ≠ e.getD w 0 := fun v w hvw hw q => by
    have := hen w (by omega)
    rw [Nat.zero_or, (pre_bit e w _).2 ⟨v, hvw, q⟩] at this
    cases this
  intro v w hv hw q
  rcases Nat.lt_trichotomy v w with c | c | c
  · exact absurd q (key v w c hw)
  · exact c
  · exact absurd q.symm (key w v c hv)
end

/-! ### no check says 'none' -/
theorem loopM_last {σ ρ : Type} {f : σ → Option (σ ⊕ ρ)} {s : σ} {r : ρ} (h : loopM f s = some r) : ∃ s', f s' = some (.inr r) := by
  obtain ⟨n, hn⟩ := of_loopM h
  induction n generalizing s with
  | zero => simp [loopN] at hn
  | succ n ih =>
    rw [loopN] at hn
    cases hf : f s with
    | none => rw [hf] at hn; cases hn
    | some y =>
      rw [hf] at hn
      cases y with
      | inl s' => exact ih (by rw [loopM_inl hf] at h; exact h) hn
      | inr r' => simp only [Option.some.injEq] at hn; subst hn; exact ⟨s, hf⟩
theorem hall_Check_ne5 {n : Int} {l : List Int} {c : Int} (h : hall_Check n l = some c) : c ≠ 5 := by
  unfold hall_Check at h
  by_cases q : n < 0 ∨ 8 < n
  · rw [if_pos q] at h; cases h; decide
  · rw [if_neg q] at h
    obtain ⟨z, hz, h⟩ := bind_s h
    rcases z with u | r
    · dsimp only at h
      split at h <;> (cases h; decide)
    · cases h
      obtain ⟨v, hv⟩ := loopM_last hz
      split at hv
      · obtain ⟨_, hv⟩ := chk_some hv
        obtain ⟨_, hv⟩ := chk_some hv
        split at hv
        · cases hv; decide
        · cases hv
      · cases hv
theorem axioms_Check_ne5 {n : Int} {l : List Int} {c : Int} (h : axioms_Check n l = some c) : c ≠ 5 := by
  unfold axioms_Check at h
  obtain ⟨y, _, h⟩ := bind_s h
  by_cases q : y ≠ 0 ∨ (l.length : Int) = 0
  · rw [if_pos q] at h; cases h; decide
  · rw [if_neg q] at h
    obtain ⟨z, hz, h⟩ := bind_s h
    rcases z with u | r
    · dsimp only at h
      obtain ⟨z2, hz2, h⟩ := bind_s h
      rcases z2 with u2 | r2
      · cases h; decide
      · cases h
        obtain ⟨v, hv⟩ := loopM_last hz2
        split at hv
        · obtain ⟨_, hv⟩ := chk_some hv
          obtain ⟨z3, hz3, hv⟩ := bind_s hv
          rcases z3 with u3 | r3
          · cases hv
          · cases hv
            obtain ⟨v3, hv3⟩ := loopM_last hz3
            split at hv3
            · obtain ⟨_, hv3⟩ := chk_some hv3
              obtain ⟨b, _, hv3⟩ := bind_s hv3
              split at hv3
              · cases hv3; decide
              · cases hv3
            · cases hv3
        · cases hv
    · cases h
      obtain ⟨v, hv⟩ := loopM_last hz
      split at hv
      · obtain ⟨_, hv⟩ := chk_some hv
        obtain ⟨a, _, hv⟩ := bind_s hv
        obtain ⟨_, hv⟩ := chk_some hv
        obtain ⟨b, _, hv⟩ := bind_s hv
        split at hv
        · cases hv; decide
        · cases hv
      · cases hv
end Go.SH
