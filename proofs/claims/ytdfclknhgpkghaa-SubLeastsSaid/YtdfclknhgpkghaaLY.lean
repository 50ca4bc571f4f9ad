/-
  EDMONDS: what a submodular function that never falls induces is a matroid; the program's answer is that matroid. Conditions: none.
-/
import Derived.Test.YtdfclknhgpkghaaLX
import Derived.Test.YtdfclknhgpkghaaLD
set_option linter.unusedSimpArgs false
set_option linter.unusedVariables false
namespace Go.SH
open Go Go.AX

/-- No less from set to larger set. -/
def Mono (m : Nat) (f : List Int) : Prop := ∀ s, s < 2 ^ m → ∀ i, i < m → f.getD s 0 ≤ f.getD (s ||| 2 ^ i) 0
/-- Nowhere more than the function says. -/
def Okf (m : Nat) (f : List Int) (s : Nat) : Prop := ∀ t, Inc t s → (cnt m t : Int) ≤ f.getD t 0

section
variable {m : Nat} {f : List Int} (hf : Subm m f) (hm : Mono m f)
include hf hm
theorem Mono.inc {s t : Nat} (hs : s < 2 ^ m) (ht : t < 2 ^ m) (h : Inc s t) : f.getD s 0 ≤ f.getD t 0 := by
  have _ := hf
  have key : ∀ d, d < 2 ^ m → f.getD s 0 ≤ f.getD (s ||| d) 0 := by
    refine set_ind (m := m) _ (by rw [Nat.or_zero]; exact Int.le_refl _) fun d k hd hk hdk ih => ?_
    have := hm (s ||| d) (or_lt hs hd) k hk
    rw [← Nat.or_assoc]; omega
  have := key t ht
  rwa [(or_eq_iff s t).2 h] at this
theorem Okf.zero : Okf m f 0 := fun t ht => by
  have _ := hm
  have : t = 0 := Inc.antisymm ht (inc_zero t)
  subst this
  rw [cnt_zero, hf.z]; exact Int.le_refl _
theorem Okf.exch {a b x : Nat} (ha : a < 2 ^ m) (hb : b < 2 ^ m) (oa : Okf m f a) (ob : Okf m f b) (hc : cnt m a = cnt m b) (hxa : a.testBit x = true) (hxb : b.testBit x = false) :
    ∃ y, b.testBit y = true ∧ a.testBit y = false ∧ Okf m f (dif a (2 ^ x) ||| 2 ^ y) := by
  rcases Classical.em (∃ y, b.testBit y = true ∧ a.testBit y = false ∧ Okf m f (dif a (2 ^ x) ||| 2 ^ y)) with q | q
  · exact q
  exfalso
  have ha' : dif a (2 ^ x) < 2 ^ m := dif_lt ha
  have haa : Inc (dif a (2 ^ x)) a := inc_dif _ _
  have tight : ∀ d, d < 2 ^ m → Inc d (dif b a) → ∃ U, Inc U (dif a (2 ^ x)) ∧ f.getD U 0 = (cnt m U : Int) ∧ ∀ y, d.testBit y = true → f.getD (U ||| 2 ^ y) 0 ≤ f.getD U 0 := by
    refine set_ind (m := m) _ (fun _ => ⟨0, inc_zero _, by rw [hf.z, cnt_zero]; rfl, fun y hy => by simp at hy⟩) fun d k hd hk hdk ih hin => ?_
    obtain ⟨U, u1, u2, u3⟩ := ih ((inc_or_l _ _).trans hin)
    have hkb := hin k (by rw [Nat.testBit_or, testBit_pow]; simp)
    rw [testBit_dif, Bool.and_eq_true, Bool.not_eq_true'] at hkb
    have hno : ¬ Okf m f (dif a (2 ^ x) ||| 2 ^ k) := fun h => q ⟨k, hkb.1, hkb.2, h⟩
    obtain ⟨t, t1, t2⟩ : ∃ t, Inc t (dif a (2 ^ x) ||| 2 ^ k) ∧ f.getD t 0 < (cnt m t : Int) := by
      rcases Classical.em (∃ t, Inc t (dif a (2 ^ x) ||| 2 ^ k) ∧ f.getD t 0 < (cnt m t : Int)) with c | c
      · exact c
      · exact absurd (fun t ht => by
          rcases Int.lt_or_le (f.getD t 0) (cnt m t : Int) with e | e
          · exact absurd ⟨t, ht, e⟩ c
          · exact e) hno
    have htm : t < 2 ^ m := t1.lt (or_lt ha' (pow_lt hk))
    have htk : t.testBit k = true := by
      cases hq : t.testBit k with
      | true => rfl
      | false =>
        exfalso
        have : Inc t a := fun i hi => by
          have := t1 i hi
          rw [Nat.testBit_or, testBit_pow, Bool.or_eq_true, decide_eq_true_eq] at this
          rcases this with e | rfl
          · exact haa i e
          · rw [hq] at hi; cases hi
        have := oa t this; omega
    have hTa : Inc (dif t (2 ^ k)) (dif a (2 ^ x)) := fun i hi => by
      rw [testBit_dif, testBit_pow, Bool.and_eq_true] at hi
      have := t1 i hi.1
      rw [Nat.testBit_or, testBit_pow, Bool.or_eq_true] at this
      rcases this with e | e
      · exact e
      · rw [e] at hi; simp at hi
    have hTm : dif t (2 ^ k) < 2 ^ m := dif_lt htm
    have hcT := cnt_dif htm htk
    have e1 := oa _ (hTa.trans haa)
    have e2 := Mono.inc hf hm hTm htm (inc_dif _ _)
    have eT : f.getD (dif t (2 ^ k)) 0 = (cnt m (dif t (2 ^ k)) : Int) := by omega
    have eTk : f.getD (dif t (2 ^ k) ||| 2 ^ k) 0 ≤ f.getD (dif t (2 ^ k)) 0 := by rw [dif_or htk]; omega
    generalize dif t (2 ^ k) = T at *
    have hUm : U < 2 ^ m := u1.lt ha'
    have hUT : Inc (U ||| T) (dif a (2 ^ x)) := inc_or u1 hTa
    have hkU : (U ||| T).testBit k = false := by
      cases hq : (U ||| T).testBit k with
      | false => rfl
      | true => have := haa k (hUT k hq); rw [hkb.2] at this; cases this
    refine ⟨U ||| T, hUT, ?_, fun y hy => ?_⟩
    · have h1 := hf.modular hUm hTm
      have h2 := oa _ (hUT.trans haa)
      have h3 := oa _ ((inc_and_l U T).trans (u1.trans haa))
      have h4 := cnt_or_and m U T
      omega
    · rw [Nat.testBit_or, testBit_pow, Bool.or_eq_true, decide_eq_true_eq] at hy
      cases hyU : (U ||| T).testBit y with
      | true =>
        rw [show U ||| T ||| 2 ^ y = U ||| T from by
          rw [Nat.or_comm]; exact (or_eq_iff _ _).2 (inc_pow hyU)]
        exact Int.le_refl _
      | false =>
        rcases hy with hy | rfl
        · have h1 := hf.less (bit_lt hd hy) (U ||| T) (or_lt hUm hTm) U hUm (inc_or_l _ _) hyU
          have h2 := u3 y hy
          omega
        · have h1 := hf.less hk (U ||| T) (or_lt hUm hTm) T hTm (inc_or_r _ _) hyU
          omega
  obtain ⟨U, u1, u2, u3⟩ := tight (dif b a) (dif_lt hb) (Inc.refl _)
  have hUm : U < 2 ^ m := u1.lt ha'
  have grow : ∀ d, d < 2 ^ m → Inc d (dif b a) → f.getD (U ||| d) 0 ≤ f.getD U 0 := by
    refine set_ind (m := m) _ (fun _ => by rw [Nat.or_zero]; exact Int.le_refl _) fun d k hd hk hdk ih hin => ?_
    have h1 := ih ((inc_or_l _ _).trans hin)
    have hkb := hin k (by rw [Nat.testBit_or, testBit_pow]; simp)
    have h2 := u3 k hkb
    rw [testBit_dif, Bool.and_eq_true, Bool.not_eq_true'] at hkb
    have hkU : U.testBit k = false := by
      cases hq : U.testBit k with
      | false => rfl
      | true => have := haa k (u1 k hq); rw [hkb.2] at this; cases this
    have h3 := hf.less hk (U ||| d) (or_lt hUm hd) U hUm (inc_or_l _ _) (by rw [Nat.testBit_or, hkU, hdk]; rfl)
    rw [← Nat.or_assoc]; omega
  have g1 := grow (dif b a) (dif_lt hb) (Inc.refl _)
  have hW : Inc (dif b a ||| (b &&& U)) b := inc_or (inc_dif _ _) (inc_and_l _ _)
  have g2 := ob _ hW
  have g3 := Mono.inc hf hm (hW.lt hb) (or_lt hUm (dif_lt hb)) (s := dif b a ||| (b &&& U)) (t := U ||| dif b a) (inc_or (inc_or_r _ _) ((inc_and_r _ _).trans (inc_or_l _ _)))
  have c1 := cnt_or_and m (dif b a) (b &&& U)
  have c0 : dif b a &&& (b &&& U) = 0 := by
    rw [disj_iff]
    intro i hi
    rw [testBit_dif, Bool.and_eq_true, Bool.not_eq_true'] at hi
    rw [Nat.testBit_and]
    cases hq : U.testBit i with
    | false => rw [Bool.and_false]
    | true => have := haa i (u1 i hq); rw [hi.2] at this; cases this
  rw [c0, cnt_zero] at c1
  have c2 := cnt_split m U b
  have c3 := cnt_split m a b
  have c4 := cnt_split m b a
  have hx : (dif a b).testBit x = true := by rw [testBit_dif, hxa, hxb]; rfl
  have c5 := cnt_dif (m := m) (dif_lt ha) hx
  have c6 : cnt m (dif U b) ≤ cnt m (dif (dif a b) (2 ^ x)) := cnt_le_of_inc fun i hi => by
    rw [testBit_dif, Bool.and_eq_true] at hi
    have h1 := u1 i hi.1
    rw [testBit_dif, Bool.and_eq_true] at h1
    rw [testBit_dif, testBit_dif, h1.1, hi.2, h1.2]; rfl
  rw [Nat.and_comm U b] at c2
  rw [Nat.and_comm b a] at c4
  omega
end

/-- Sets of the largest count among those that are right. -/
noncomputable def topF (m : Nat) (f : List Int) (k : Nat) (v : Int) : List Nat := open Classical in (List.range k).filter fun s => decide (Okf m f s) && decide ((cnt m s : Int) = v)
theorem mem_topF {m : Nat} {f : List Int} {k : Nat} {v : Int} {s : Nat} : s ∈ topF m f k v ↔ s < k ∧ Okf m f s ∧ (cnt m s : Int) = v := by
  unfold topF
  simp only [List.mem_filter, List.mem_range, Bool.and_eq_true, decide_eq_true_eq]
theorem topF_succ {m : Nat} {f : List Int} (k : Nat) (v : Int) : (Okf m f k ∧ (cnt m k : Int) = v → topF m f (k + 1) v = topF m f k v ++ [k]) ∧ (¬ (Okf m f k ∧ (cnt m k : Int) = v) → topF m f (k + 1) v = topF m f k v) := by
  unfold topF
  rw [List.range_succ, List.filter_append]
  constructor
  · rintro ⟨h1, h2⟩
    rw [List.filter_cons, if_pos (by simp [h1, h2])]; rfl
  · intro h
    rw [List.filter_cons, if_neg (by simpa using h)]; simp
theorem topF_len (m : Nat) (f : List Int) (k : Nat) (v : Int) : (topF m f k v).length ≤ k := by
  unfold topF
  refine Nat.le_trans (List.length_filter_le _ _) ?_
  simp

/-- The next set within one, downward. -/
theorem sub_pred : ∀ (t s u : Nat), t &&& s = t → u &&& s = u → u < t → u ≤ (t - 1) &&& s := by
  intro t
  induction t using Nat.strongRecOn with
  | ind t ih =>
    intro s u ht hu hlt
    have d1 := congrArg (· / 2) ht
    have d2 := congrArg (· / 2) hu
    simp only [Nat.and_div_two] at d1 d2
    have m2 : u % 2 = 1 → s % 2 = 1 := fun h => by
      have h3 : (u &&& s) % 2 = 1 := by rw [hu]; exact h
      exact (Nat.and_mod_two_eq_one.1 h3).2
    have e : ((t - 1) &&& s) / 2 = (t - 1) / 2 &&& s / 2 := Nat.and_div_two
    rcases Nat.mod_two_eq_zero_or_one t with c | c
    · have hd : (t - 1) / 2 = t / 2 - 1 := by omega
      rw [hd] at e
      have h1 : u / 2 < t / 2 := by omega
      have h2 := ih (t / 2) (by omega) (s / 2) (u / 2) d1 d2 h1
      have h3 : ((t - 1) &&& s) % 2 = 1 ↔ (t - 1) % 2 = 1 ∧ s % 2 = 1 := Nat.and_mod_two_eq_one
      have h4 : (t - 1) % 2 = 1 := by omega
      rcases Nat.mod_two_eq_zero_or_one u with c2 | c2
      · omega
      · have := h3.2 ⟨h4, m2 c2⟩
        omega
    · have hd : (t - 1) / 2 = t / 2 := by omega
      rw [hd, d1] at e
      omega

theorem sub_Induced_spec (n : Int) (f : List Int) : Gets (sub_Induced n f) (fun r => (r.2.2 = 0 ∧ ∃ m B, r.1 = (m : Nat) ∧ r.2.1 = cs B ∧ Mat m B) ∨ (r.2.2 ≠ 0 ∧ r.1 = 0)) := by
  unfold sub_Induced
  refine gBind (sub_Check_spec n f) fun y hy => gIte (fun q => gSome (.inr ⟨q, rfl⟩)) fun q => ?_
  obtain ⟨m, rfl, hf⟩ : ∃ m : Nat, n = m ∧ Subm m f := by
    rcases hy with ⟨_, h⟩ | ⟨h, _⟩
    · exact h
    · omega
  have h8 := hf.n8
  have h256 := pow_le8 h8
  have hl := hf.len
  have hpos : 0 < 2 ^ m := Nat.pow_pos (by omega)
  rw [hl]
  refine gBind (R := fun z => match z with | .inl _ => Mono m f | .inr r => r.2.2 ≠ 0 ∧ r.1 = 0) (gFor (2 ^ m) (fun k v => v = (k : Int) ∧ ∀ s, s < k → ∀ i, i < m → f.getD s 0 ≤ f.getD (s ||| 2 ^ i) 0) (Nat.zero_le _) ⟨rfl, none_all⟩ ?_) ?_
  · rintro k _ hk ⟨rfl, hb⟩
    refine gIte (fun h1 => ?_) fun h1 => gSome fun s hs => hb s (by omega)
    have hk' : k < 2 ^ m := by omega
    refine gBind (R := fun z => match z with | .inl _ => ∀ i, i < m → f.getD k 0 ≤ f.getD (k ||| 2 ^ i) 0 | .inr r => r.2.2 ≠ 0 ∧ r.1 = 0) (gFor m (fun i v => v = (i : Int) ∧ ∀ j, j < i → f.getD k 0 ≤ f.getD (k ||| 2 ^ j) 0) (Nat.zero_le _) ⟨rfl, none_all⟩ ?_) ?_
    · rintro i _ hi ⟨rfl, hbi⟩
      refine gIte (fun h2 => ?_) fun h2 => gSome fun j hj => hbi j (by omega)
      have hi' : i < m := by omega
      have ho := or_lt hk' (pow_lt hi')
      simp only [toNat_nat, shl_nat', or_nat]
      exact gChk (by omega) (gIte (fun q => gSome ⟨by simp, rfl⟩) fun q => gSome ⟨hi', by simp, step_all hbi (by omega)⟩)
    · rintro (u | rr) hz
      · exact gSome ⟨hk', by simp, step_all hb hz⟩
      · exact gSome hz
  · rintro (u | rr) hz
    rotate_left
    · exact gSome (.inr hz)
    have hm : Mono m f := hz
    refine gBind (R := fun o => ∃ v : Int, o = cs (topF m f (2 ^ m) v) ∧ (∃ s, s < 2 ^ m ∧ Okf m f s ∧ (cnt m s : Int) = v) ∧ ∀ s, s < 2 ^ m → Okf m f s → (cnt m s : Int) ≤ v)
      (gFor (2 ^ m) (fun k (x : List Int × Int × Int) => x.2.2 = (k : Int) ∧ x.1 = cs (topF m f k x.2.1) ∧ (-1 ≤ x.2.1 ∧ (k = 0 → x.2.1 ≤ 0)) ∧ x.2.1 ≤ m ∧ (0 < k → ∃ s, s < k ∧ Okf m f s ∧ (cnt m s : Int) = x.2.1) ∧ ∀ s, s < k → Okf m f s → (cnt m s : Int) ≤ x.2.1) (Nat.zero_le _) ⟨rfl, rfl, ⟨by simp, by simp⟩, by simp, fun q => absurd q (Nat.lt_irrefl 0), fun s hs => absurd hs (Nat.not_lt_zero s)⟩ ?_) ?_
    · rintro k ⟨x1, v, x3⟩ hk ⟨hx3, hx1, hv1, hv2, hv3, hv4⟩
      simp only at hx1 hx3 hv1 hv2 hv3 hv4 ⊢
      subst hx1 hx3
      refine gIte (fun h1 => ?_) fun h1 => gSome ?_
      · have hk' : k < 2 ^ m := by omega
        have hck := cnt_le m k
        refine gBind (R := fun r : Bool => r = true ↔ Okf m f k) (gLoop (fun x : Bool × Int => ∃ t : Nat, x.2 = (t : Int) ∧ Inc t k ∧ ((x.1 = true ∧ ∀ u, Inc u k → t < u → (cnt m u : Int) ≤ f.getD u 0) ∨ (x.1 = false ∧ ¬ Okf m f k))) (fun x => x.2.toNat) ⟨k, rfl, Inc.refl k, .inl ⟨rfl, fun u hu hl => ?_⟩⟩ ?_) ?_
        · have := (sub_iff_and u k).2 hu
          have := Nat.and_le_right (n := u) (m := k)
          omega
        · rintro ⟨b, _⟩ ⟨t, rfl, ht, hb⟩
          simp only at hb ⊢
          refine gIte (fun q => ?_) fun q => gSome ?_
          · obtain ⟨q1, rfl⟩ := q
            have htm := ht.lt hk'
            have hb' : ∀ u, Inc u k → t < u → (cnt m u : Int) ≤ f.getD u 0 := by
              rcases hb with hb | hb
              · exact hb.2
              · cases hb.1
            refine gBindE (sub_size_nat (by omega)) ?_
            simp only [toNat_nat, size_of_lt htm h8]
            obtain ⟨t', rfl⟩ : ∃ t', t = t' + 1 := ⟨t - 1, by omega⟩
            have e1 : (((t' + 1 : Nat) : Int) - 1) = ((t' : Nat) : Int) := by omega
            rw [e1, and_nat]
            refine gChk (by omega) (gChk (by omega) (gSome ⟨⟨t' &&& k, rfl, inc_and_r _ _, ?_⟩, ?_⟩))
            · by_cases c : (cnt m (t' + 1) : Int) ≤ f.getD (t' + 1) 0
              · refine .inl ⟨decide_eq_true c, fun u hu hlt => ?_⟩
                rcases Nat.lt_or_ge (t' + 1) u with d | d
                · exact hb' u hu d
                · rcases Nat.lt_or_ge u (t' + 1) with d2 | d2
                  · have := sub_pred (t' + 1) k u ((sub_iff_and _ _).2 ht) ((sub_iff_and _ _).2 hu) d2
                    rw [Nat.add_sub_cancel] at this; omega
                  · have : u = t' + 1 := by omega
                    subst this; exact c
              · exact .inr ⟨decide_eq_false c, fun h => c (h _ ht)⟩
            · have := Nat.and_le_left (n := t') (m := k)
              show ((t' &&& k : Nat) : Int).toNat < ((t' + 1 : Nat) : Int).toNat
              omega
          · rcases hb with ⟨rfl, hb⟩ | ⟨rfl, hb⟩
            · have h0 : t = 0 := by
                rcases Nat.eq_zero_or_pos t with c | c
                · exact c
                · exact absurd ⟨by omega, rfl⟩ q
              subst h0
              refine ⟨fun _ u hu => ?_, fun _ => rfl⟩
              rcases Nat.eq_zero_or_pos u with c | c
              · subst c; rw [cnt_zero, hf.z]; exact Int.le_refl _
              · exact hb u hu c
            · exact ⟨fun h => (by cases h), fun h => absurd h hb⟩
        · intro b hb
          have hlen := topF_len m f k v
          have sz := sub_size_nat (show k < 256 by omega)
          rw [size_of_lt hk' h8] at sz
          have hk0 : ¬ (Okf m f k ∧ (cnt m k : Int) = v) → (Okf m f k → ¬ v < cnt m k) → 0 < k := fun _ h2 => by
            rcases Nat.eq_zero_or_pos k with c | c
            · subst c
              have o := Okf.zero hf hm
              have := h2 o
              have h3 := hv1.2 rfl
              rw [cnt_zero] at this
              have : v = 0 := by omega
              subst this
              exact absurd ⟨o, by rw [cnt_zero]; rfl⟩ ‹¬ (Okf m f 0 ∧ (cnt m 0 : Int) = 0)›
            · exact c
          have keep : ¬ (Okf m f k ∧ (cnt m k : Int) = v) → (Okf m f k → ¬ v < cnt m k) → k < 2 ^ m ∧ ((k : Int) + 1) = ((k + 1 : Nat) : Int) ∧ cs (topF m f k v) = cs (topF m f (k + 1) v) ∧ (-1 ≤ v ∧ (k + 1 = 0 → v ≤ 0)) ∧ v ≤ m ∧ (0 < k + 1 → ∃ s, s < k + 1 ∧ Okf m f s ∧ (cnt m s : Int) = v) ∧ ∀ s, s < k + 1 → Okf m f s → (cnt m s : Int) ≤ v := fun h2 h3 => by
            have hk1 := hk0 h2 h3
            obtain ⟨s, s1, s2, s3⟩ := hv3 hk1
            refine ⟨hk', by omega, by rw [(topF_succ k v).2 h2], ⟨hv1.1, fun c => by omega⟩, hv2, fun _ => ⟨s, by omega, s2, s3⟩, fun s hs o => ?_⟩
            rcases Nat.lt_succ_iff_lt_or_eq.1 hs with c | rfl
            · exact hv4 s c o
            · have := h3 o; omega
          by_cases hI : Okf m f k
          · have hbt : b = true := hb.2 hI
            subst hbt
            simp only [not_true_eq_false, not_false_eq_true, if_true, false_or, sz, Option.bind_some]
            refine gIte (fun q => gSome (keep (by omega) (fun _ => by omega))) fun q => gIte (fun q2 => gChk (by simp) (gSome ⟨hk', by simp, ?_, ⟨by simp only; omega, fun c => by omega⟩, by simp only; omega, fun _ => ⟨k, Nat.lt_succ_self k, hI, rfl⟩, fun s hs o => ?_⟩)) fun q2 => gChk (by simp; omega) (gSome ⟨hk', by simp, ?_, ⟨hv1.1, fun c => by omega⟩, hv2, fun _ => ⟨k, Nat.lt_succ_self k, hI, by simp only; omega⟩, fun s hs o => ?_⟩)
            · rw [(topF_succ k _).1 ⟨hI, rfl⟩]
              have : topF m f k (cnt m k : Nat) = [] := by
                refine List.eq_nil_iff_forall_not_mem.2 fun s hs => ?_
                obtain ⟨s1, s2, s3⟩ := mem_topF.1 hs
                have := hv4 s s1 s2
                omega
              rw [this]; rfl
            · rcases Nat.lt_succ_iff_lt_or_eq.1 hs with c | rfl
              · have := hv4 s c o; simp only; omega
              · exact Int.le_refl _
            · show _ = cs (topF m f (k + 1) v)
              rw [(topF_succ k v).1 ⟨hI, by omega⟩, cs_app]
            · rcases Nat.lt_succ_iff_lt_or_eq.1 hs with c | rfl
              · exact hv4 s c o
              · simp only; omega
          · have hbf : b = false := by
              cases b with
              | false => rfl
              | true => exact absurd (hb.1 rfl) hI
            subst hbf
            simp only [Bool.false_eq_true, not_false_eq_true, not_true_eq_false, if_false, Option.bind_some, true_or, if_true]
            exact gSome (keep (fun h => hI h.1) (fun h => absurd h hI))
      · have hkm : k = 2 ^ m := by omega
        subst hkm
        exact ⟨v, rfl, hv3 hpos, hv4⟩
    · rintro o ⟨v, rfl, ⟨s0, s1, s2, s3⟩, hmax⟩
      refine gSome (.inl ⟨rfl, m, topF m f (2 ^ m) v, rfl, rfl, ⟨filter_fam h8 _, ?_, ?_, ?_⟩⟩)
      · intro e
        have : s0 ∈ topF m f (2 ^ m) v := mem_topF.2 ⟨s1, s2, s3⟩
        rw [e] at this; simp at this
      · intro a ha b hb
        have := (mem_topF.1 ha).2.2
        have := (mem_topF.1 hb).2.2
        omega
      · intro a ha b hb x hxa hxb
        obtain ⟨a1, a2, a3⟩ := mem_topF.1 ha
        obtain ⟨b1, b2, b3⟩ := mem_topF.1 hb
        obtain ⟨y, y1, y2, y3⟩ := Okf.exch hf hm a1 b1 a2 b2 (by omega) hxa hxb
        refine ⟨y, y1, y2, mem_topF.2 ⟨or_lt (dif_lt a1) (pow_lt (bit_lt b1 y1)), y3, ?_⟩⟩
        have hxy : x ≠ y := by rintro rfl; rw [hxa] at y2; cases y2
        have c1 := cnt_dif a1 hxa
        have c2 := cnt_add (m := m) (s := dif a (2 ^ x)) (bit_lt b1 y1) (by rw [testBit_dif, y2]; rfl)
        omega
end Go.SH
