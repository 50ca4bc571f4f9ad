/-
  Package links as it computes: one way more (pipes.more): a search in width, and a unit turned round along the way back. Conditions: none.
-/
import Derived.Test.YtdhbpoafkhojnaaLNb
set_option linter.unusedSimpArgs false
set_option linter.unusedVariables false
namespace Go.SH
open Go Go.AX

theorem nodup_le : ∀ (m : Nat) (Q : List Nat), Q.Nodup → (∀ x, x ∈ Q → x < m) → Q.length ≤ m
  | 0, Q, _, h => by
    cases Q with
    | nil => exact Nat.le_refl _
    | cons a l => exact absurd (h a List.mem_cons_self) (by omega)
  | m + 1, Q, hn, h => by
    have h1 := nodup_le m (Q.erase m) (hn.erase m) fun x hx => by
      have h2 := hn.mem_erase_iff.1 hx
      have := h x h2.2
      have := h2.1
      omega
    have h2 := List.length_erase (a := m) (l := Q)
    split at h2 <;> omega
theorem getD_mem {Q : List Nat} {t : Nat} (h : t < Q.length) : Q.getD t 0 ∈ Q := by
  rw [List.getD_eq_getElem?_getD, List.getElem?_eq_getElem h]; exact List.getElem_mem h
theorem getD_inj {Q : List Nat} (hn : Q.Nodup) {s t : Nat} (hs : s < Q.length) (ht : t < Q.length) (e : Q.getD s 0 = Q.getD t 0) : s = t := by
  rw [List.getD_eq_getElem?_getD, List.getD_eq_getElem?_getD, List.getElem?_eq_getElem hs, List.getElem?_eq_getElem ht] at e
  have hp := List.pairwise_iff_getElem.1 hn
  rcases Nat.lt_trichotomy s t with c | c | c
  · exact absurd e (hp s t hs ht c)
  · exact c
  · exact absurd e.symm (hp t s ht hs c)
theorem mem_getD' {Q : List Nat} {x : Nat} (h : x ∈ Q) : ∃ t, t < Q.length ∧ Q.getD t 0 = x := by
  obtain ⟨t, ht, rfl⟩ := List.getElem_of_mem h
  exact ⟨t, ht, by rw [List.getD_eq_getElem?_getD, List.getElem?_eq_getElem ht]; rfl⟩
theorem snocN_lt {Q : List Nat} {x t : Nat} (h : t < Q.length) : (Q ++ [x]).getD t 0 = Q.getD t 0 := by
  rw [List.getD_eq_getElem?_getD, List.getElem?_append_left h, ← List.getD_eq_getElem?_getD]
theorem snocN_at {Q : List Nat} {x t : Nat} (h : t = Q.length) : (Q ++ [x]).getD t 0 = x := by
  subst h; rw [List.getD_eq_getElem?_getD, List.getElem?_append_right (Nat.le_refl _), Nat.sub_self]; rfl
theorem sm_put {m j : Nat} (hj : j < m) {f g : Nat → Int} (h : ∀ i, i < m → i ≠ j → f i = g i) : sm m f = sm m g + (f j - g j) := by
  have e : sm m f = sm m (fun i => g i + (if i = j then f j - g j else 0)) := sm_congr fun i hi => by
    by_cases c : i = j
    · subst c; rw [if_pos rfl]; omega
    · rw [if_neg c, h i hi c]; omega
  rw [e, sm_add, sm_one (f := fun i => if i = j then f j - g j else 0) hj fun i hi hne => if_neg hne, if_pos rfl]
/-- What is known in the search: who was met, in order, and from whom. -/
structure Met (m : Nat) (X : List (List Int)) (c : List Int) (Q : List Nat) : Prop where
  len : c.length = m
  nd : Q.Nodup
  lt : ∀ x, x ∈ Q → x < m
  pos : 0 < Q.length
  fst : Q.getD 0 0 = 0
  mem : ∀ i, i < m → (0 ≤ c.getD i 0 ↔ i ∈ Q)
  par : ∀ t, 0 < t → t < Q.length → ∃ s, s < t ∧ c.getD (Q.getD t 0) 0 = ((Q.getD s 0 : Nat) : Int) ∧ 0 < en X (Q.getD s 0) (Q.getD t 0)
theorem Met.add {m : Nat} {X : List (List Int)} {c : List Int} {Q : List Nat} (h : Met m X c Q) {k j : Nat} (hk : k < Q.length) (hj : j < m) (he : 0 < en X (Q.getD k 0) j) (hn : c.getD j 0 < 0) : Met m X (c.set j ((Q.getD k 0 : Nat) : Int)) (Q ++ [j]) := by
  have hnot : j ∉ Q := fun w => by have := (h.mem j hj).2 w; omega
  have hg := fun i => numGet (((Q.getD k 0 : Nat) : Int)) (show j < c.length by rw [h.len]; exact hj) i
  refine ⟨by rw [List.length_set]; exact h.len, ?_, fun x hx => ?_, by rw [List.length_append]; simp, by rw [snocN_lt h.pos]; exact h.fst, fun i hi => ?_, fun t h0 ht => ?_⟩
  · rw [List.nodup_append]
    exact ⟨h.nd, by simp, fun a ha b hb => by rw [List.mem_singleton] at hb; subst hb; exact fun e => hnot (e ▸ ha)⟩
  · rcases List.mem_append.1 hx with w | w
    · exact h.lt x w
    · rw [List.mem_singleton] at w; omega
  · rw [hg, List.mem_append, List.mem_singleton]
    by_cases e : i = j
    · rw [if_pos e]; exact ⟨fun _ => .inr e, fun _ => by omega⟩
    · rw [if_neg e, h.mem i hi]; exact ⟨.inl, fun w => w.resolve_right e⟩
  · rw [List.length_append] at ht
    simp only [List.length_cons, List.length_nil] at ht
    by_cases e : t = Q.length
    · refine ⟨k, by omega, ?_, ?_⟩
      · rw [snocN_at e, hg, if_pos rfl, snocN_lt hk]
      · rw [snocN_at e, snocN_lt hk]; exact he
    · obtain ⟨s, s1, s2, s3⟩ := h.par t h0 (by omega)
      have hne : Q.getD t 0 ≠ j := fun w => hnot (w ▸ getD_mem (by omega))
      refine ⟨s, s1, ?_, ?_⟩
      · rw [snocN_lt (by omega), hg, if_neg hne, snocN_lt (by omega)]; exact s2
      · rw [snocN_lt (by omega), snocN_lt (by omega)]; exact s3
theorem more_spec {m : Nat} {X : List (List Int)} (hX : Sq m X) (hm : 2 ≤ m) (hm16 : m ≤ 16) (hnn : ∀ i, i < m → ∀ j, j < m → 0 ≤ en X i j) (hsy : ∀ i, i < m → ∀ j, j < m → en X i j + en X j i ≤ 2) :
    Gets (links_pipes_more X) (fun r => (r.1 = false ∧ r.2 = X ∧ ∃ S : Nat → Bool, S 0 = true ∧ S 1 = false ∧ ∀ i, i < m → ∀ j, j < m → S i = true → S j = false → en X i j = 0) ∨
      (r.1 = true ∧ Sq m r.2 ∧ (∀ i, i < m → ∀ j, j < m → 0 ≤ en r.2 i j) ∧ (∀ i, i < m → ∀ j, j < m → en r.2 i j + en r.2 j i = en X i j + en X j i) ∧ ∀ i, i < m → sm m (en r.2 i) = sm m (en X i) + ((if i = 0 then -1 else 0) + (if i = 1 then 1 else 0)))) := by
  have hlX := hX.len
  unfold links_pipes_more
  simp only [hlX, toNat_nat]
  refine gChk ⟨by omega, by omega⟩ ?_
  refine gBind (R := fun c : List Int => c.length = m ∧ ∀ i, i < m → c.getD i 0 = -1) (gFor m (fun k (x : List Int × Int) => x.2 = (k : Int) ∧ x.1.length = m ∧ ∀ i, i < k → x.1.getD i 0 = -1) (Nat.zero_le _) ⟨rfl, by simp, none_all⟩ ?_) ?_
  · rintro k ⟨c, _⟩ hk ⟨rfl, h1, h2⟩
    dsimp only at h1 h2 ⊢
    simp only [toNat_nat, List.length_replicate]
    refine gIte (fun h3 => gChk ⟨by omega, by omega⟩ (gSome ⟨by omega, by simp, by simpa using h1, fun i hi => ?_⟩)) fun h3 => gSome ⟨h1, fun i hi => h2 i (by omega)⟩
    rw [numGet _ (by omega)]
    by_cases e : i = k
    · rw [if_pos e]
    · rw [if_neg e]; exact h2 i (by omega)
  rintro c0 ⟨hc1, hc2⟩
  refine gChk ⟨by omega, by omega⟩ ?_
  have start : Met m X (c0.set 0 0) [0] := by
    have hg := fun i => numGet (0 : Int) (show 0 < c0.length by omega) i
    refine ⟨by simpa using hc1, by simp, fun x hx => by simp at hx; omega, by simp, rfl, fun i hi => ?_, fun t h0 ht => by simp at ht; omega⟩
    rw [hg, List.mem_singleton]
    by_cases e : i = 0
    · rw [if_pos e]; exact ⟨fun _ => e, fun _ => Int.le_refl _⟩
    · rw [if_neg e, hc2 i hi]; exact ⟨fun w => by omega, fun w => absurd w e⟩
  refine gBind (R := fun c : List Int => ∃ Q, Met m X c Q ∧ (0 ≤ c.getD 1 0 ∨ ∀ t, t < Q.length → ∀ j, j < m → 0 < en X (Q.getD t 0) j → j ∈ Q))
    (gFor m (fun k (x : List Int × List Int × Int) => x.2.2 = (k : Int) ∧ ∃ Q, x.2.1 = cs Q ∧ Met m X x.1 Q ∧ k ≤ Q.length ∧ ∀ t, t < k → ∀ j, j < m → 0 < en X (Q.getD t 0) j → j ∈ Q) (Nat.zero_le _) ⟨rfl, [0], rfl, start, Nat.zero_le _, none_all⟩ ?_) ?_
  · rintro k ⟨c, _, _⟩ hk ⟨rfl, Q, rfl, hM, hkQ, hcl⟩
    dsimp only at hM ⊢
    have hlc := hM.len
    have hQm := nodup_le m Q hM.nd hM.lt
    simp only [toNat_nat, cs_len, cs_get]
    refine gChk (fun _ => ⟨by omega, by omega⟩) ?_
    refine gIte (fun h1 => ?_) fun h1 => gSome ⟨Q, hM, ?_⟩
    rotate_left
    · by_cases w : 0 ≤ c.getD 1 0
      · exact .inl w
      · exact .inr fun t ht => hcl t (by omega)
    have hk1 : k < Q.length := by omega
    have hu := hM.lt _ (getD_mem hk1)
    have hrow := hX.row _ hu
    refine gChk ⟨⟨by omega, by omega⟩, by omega, by omega⟩ ?_
    obtain ⟨u, hue⟩ : ∃ u, u = Q.getD k 0 := ⟨_, rfl⟩
    rw [← hue] at hu hrow ⊢
    refine gBind (R := fun z : List Int × List Int => ∃ Q', z.2 = cs Q' ∧ Met m X z.1 Q' ∧ k < Q'.length ∧ (∀ t, t ≤ k → Q'.getD t 0 = Q.getD t 0) ∧ (∀ x, x ∈ Q → x ∈ Q') ∧ ∀ j, j < m → 0 < en X u j → j ∈ Q')
      (gFor m (fun j (x : List Int × List Int × Int) => x.2.2 = (j : Int) ∧ ∃ Q', x.2.1 = cs Q' ∧ Met m X x.1 Q' ∧ k < Q'.length ∧ (∀ t, t ≤ k → Q'.getD t 0 = Q.getD t 0) ∧ (∀ x, x ∈ Q → x ∈ Q') ∧ ∀ b, b < j → 0 < en X u b → b ∈ Q') (Nat.zero_le _) ⟨rfl, Q, rfl, hM, hk1, fun t _ => rfl, fun x hx => hx, none_all⟩ ?_) ?_
    · rintro j ⟨c', _, _⟩ hj ⟨rfl, Q', rfl, hM', hkQ', hsame, hsub, hcl'⟩
      dsimp only at hM' ⊢
      have hlc' := hM'.len
      have hQm' := nodup_le m Q' hM'.nd hM'.lt
      have ee : (X.getD u []).getD j 0 = en X u j := rfl
      simp only [toNat_nat, cs_len, cs_get, hrow, ee]
      refine gIte (fun h2 => ?_) fun h2 => gSome ⟨Q', rfl, hM', hkQ', hsame, hsub, fun b hb => hcl' b (by omega)⟩
      have hjm : j < m := by omega
      refine gChk ⟨by omega, by omega⟩ (gChk (fun _ => ⟨by omega, by omega⟩) ?_)
      have hku : Q'.getD k 0 = u := by rw [hsame k (Nat.le_refl _), hue]
      refine gIte (fun h3 => ?_) fun h3 => gChk ⟨by omega, by omega⟩ (gSome ⟨hjm, by simp, Q', rfl, hM', hkQ', hsame, hsub, step_all hcl' fun w => ?_⟩)
      · refine gChk ⟨⟨by omega, by omega⟩, by omega, by omega⟩ (gChk (by rw [List.length_append, cs_len]; simp; omega) (gChk ⟨by omega, by omega⟩ (gSome ⟨hjm, by simp, Q' ++ [j], cs_app _ _, hM'.add hkQ' hjm (by rw [hku]; exact h3.1) h3.2, by rw [List.length_append]; omega, fun t ht => ?_, fun x hx => List.mem_append_left _ (hsub x hx), step_all (fun b hb w => List.mem_append_left _ (hcl' b hb w)) fun _ => List.mem_append_right _ (List.mem_singleton.2 rfl)⟩)))
        rw [snocN_lt (by omega)]; exact hsame t ht
      · exact (hM'.mem j hjm).1 (by omega)
    · rintro ⟨c', _⟩ ⟨Q', rfl, hM', hkQ', hsame, hsub, hcl'⟩
      refine gChk ⟨by omega, by omega⟩ (gSome ⟨by omega, by simp, Q', rfl, hM', hkQ', fun t ht j hj w => ?_⟩)
      rcases Nat.lt_succ_iff_lt_or_eq.1 ht with q | q
      · rw [hsame t (by omega)] at w; exact hsub _ (hcl t q j hj w)
      · rw [q, hsame k (Nat.le_refl _), ← hue] at w; exact hcl' j hj w
  rintro c ⟨Q, hM, hend⟩
  have hlc := hM.len
  refine gChk ⟨by omega, by omega⟩ ?_
  refine gIte (fun h1 => gSome (.inl ⟨rfl, rfl, fun i => decide (i ∈ Q), ?_, ?_, fun i hi j hj a b => ?_⟩)) fun h1 => ?_
  · exact decide_eq_true (by have := getD_mem hM.pos; rwa [hM.fst] at this)
  · exact decide_eq_false fun w => by have := (hM.mem 1 (by omega)).2 w; omega
  · have hcl := hend.resolve_left (by omega)
    obtain ⟨t, t1, rfl⟩ := mem_getD' (of_decide_eq_true a)
    have h2 : ¬ 0 < en X (Q.getD t 0) j := fun w => (of_decide_eq_false b) (hcl t t1 j hj w)
    have := hnn _ hi j hj
    omega
  have h1Q : 1 ∈ Q := (hM.mem 1 (by omega)).1 (by omega)
  obtain ⟨t0, ht0, ht1⟩ := mem_getD' h1Q
  have hQm := nodup_le m Q hM.nd hM.lt
  refine gBind (R := fun q => Sq m q ∧ (∀ i, i < m → ∀ j, j < m → 0 ≤ en q i j) ∧ (∀ i, i < m → ∀ j, j < m → en q i j + en q j i = en X i j + en X j i) ∧ ∀ i, i < m → sm m (en q i) = sm m (en X i) + ((if i = 0 then -1 else 0) + (if i = 1 then 1 else 0)))
    (gFor Q.length (fun k (x : List (List Int) × Int) => ∃ t, t + k < Q.length ∧ x.2 = ((Q.getD t 0 : Nat) : Int) ∧ Sq m x.1 ∧ (∀ i, i < m → ∀ j, j < m → 0 ≤ en x.1 i j) ∧ (∀ i, i < m → ∀ j, j < m → en x.1 i j + en x.1 j i = en X i j + en X j i) ∧ (∀ s, s ≤ t → ∀ i, i < m → en X i (Q.getD s 0) ≤ en x.1 i (Q.getD s 0)) ∧
      ∀ i, i < m → sm m (en x.1 i) = sm m (en X i) + ((if i = Q.getD t 0 then -1 else 0) + (if i = 1 then 1 else 0))) (Nat.zero_le _)
      ⟨t0, by omega, by rw [ht1]; rfl, hX, hnn, fun i _ j _ => rfl, fun s _ i _ => Int.le_refl _, fun i hi => by dsimp only; rw [ht1]; split <;> omega⟩ ?_) fun q hq => gSome (.inr ⟨rfl, hq⟩)
  rintro k ⟨q, _⟩ hk ⟨t, htk, rfl, hq, hqn, hqs, hqm, hqr⟩
  dsimp only at hq hqn hqs hqm hqr ⊢
  refine gIte (fun h2 => ?_) fun h2 => gSome ⟨hq, hqn, hqs, fun i hi => by rw [hqr i hi, show Q.getD t 0 = 0 by omega]⟩
  have htQ : t < Q.length := by omega
  have ht0' : 0 < t := by
    rcases Nat.eq_zero_or_pos t with w | w
    · subst w; exact absurd (by rw [hM.fst]; rfl) h2
    · exact w
  obtain ⟨s, s1, s2, s3⟩ := hM.par t ht0' htQ
  have hsQ : s < Q.length := by omega
  have hwm := hM.lt _ (getD_mem htQ)
  have hum := hM.lt _ (getD_mem hsQ)
  have hne : Q.getD s 0 ≠ Q.getD t 0 := fun e => by have := getD_inj hM.nd hsQ htQ e; omega
  have hmono := hqm t (Nat.le_refl _) _ hum
  have hinj : ∀ r, r ≤ s → Q.getD r 0 ≠ Q.getD t 0 := fun r hr e => by have := getD_inj hM.nd (by omega) htQ e; omega
  obtain ⟨w, hw⟩ : ∃ w, w = Q.getD t 0 := ⟨_, rfl⟩
  obtain ⟨u, hu⟩ : ∃ u, u = Q.getD s 0 := ⟨_, rfl⟩
  rw [← hw] at hwm hne s2 s3 hmono h2 hqr hinj ⊢
  rw [← hu] at hum hne s2 s3 hmono
  simp only [s2, toNat_nat]
  have hl := hq.len
  have ru := hq.row u hum
  have rw' := hq.row w hwm
  have e1 : (q.getD u []).getD w 0 = en q u w := rfl
  have hq1 := hq.put (i := u) (j := w) (en q u w - 1) hum
  have hq1g := hq.get (i := u) (j := w) (en q u w - 1) hum hwm
  simp only [e1]
  obtain ⟨q1, hq1e⟩ : ∃ q1, q1 = q.set u ((q.getD u []).set w (en q u w - 1)) := ⟨_, rfl⟩
  rw [← hq1e] at hq1 hq1g ⊢
  have e2 : (q1.getD w []).getD u 0 = en q w u := by
    show en q1 w u = _
    rw [hq1g, if_neg (fun z => hne z.1.symm)]
  simp only [e2]
  have hq2 := hq1.put (i := w) (j := u) (en q w u + 1) hwm
  have hq2g : ∀ a b, en (q1.set w ((q1.getD w []).set u (en q w u + 1))) a b = if a = w ∧ b = u then en q w u + 1 else if a = u ∧ b = w then en q u w - 1 else en q a b := fun a b => by
    rw [hq1.get _ hwm hum, hq1g]
  have l1 := hq1.len
  have p1 := hqn u hum w hwm
  have p2 := hqn w hwm u hum
  have p3 := hqs u hum w hwm
  have p4 := hsy u hum w hwm
  refine gChk ⟨⟨by omega, by omega⟩, ⟨by omega, by omega⟩, ⟨by omega, by rw [ru]; omega⟩, by omega, by omega⟩ (gChk ⟨⟨by omega, by omega⟩, ⟨by omega, by omega⟩, ⟨by omega, by rw [rw']; omega⟩, by omega, by omega⟩ (gChk ⟨by omega, by omega⟩ (gSome ⟨by omega, s, by omega, by rw [hu], hq2, fun a ha b hb => ?_, fun a ha b hb => ?_, fun r hr a ha => ?_, fun a ha => ?_⟩)))
  · rw [hq2g]
    split
    · omega
    · split
      · omega
      · exact hqn a ha b hb
  · rw [hq2g, hq2g, ← hqs a ha b hb]
    by_cases c1 : a = w ∧ b = u
    · obtain ⟨rfl, rfl⟩ := c1
      rw [if_pos ⟨rfl, rfl⟩, if_neg (fun z => hne z.1), if_pos ⟨rfl, rfl⟩]; omega
    · by_cases c2 : a = u ∧ b = w
      · obtain ⟨rfl, rfl⟩ := c2
        rw [if_neg c1, if_pos ⟨rfl, rfl⟩, if_pos ⟨rfl, rfl⟩]; omega
      · rw [if_neg c1, if_neg c2, if_neg (fun z => c2 ⟨z.2, z.1⟩), if_neg (fun z => c1 ⟨z.2, z.1⟩)]
  · have := hqm r (by omega) a ha
    have hnw := hinj r hr
    rw [hq2g]
    by_cases c1 : a = w ∧ Q.getD r 0 = u
    · rw [if_pos c1]; rw [c1.1, c1.2] at *; omega
    · rw [if_neg c1, if_neg (fun z => hnw z.2)]; exact this
  · have hr0 := hqr a ha
    dsimp only
    by_cases c1 : a = w
    · have := sm_put (m := m) (j := u) hum (f := en (q1.set w ((q1.getD w []).set u (en q w u + 1))) a) (g := en q a) fun i hi hn => by
        rw [hq2g, if_neg (fun z => hn z.2), if_neg (fun z => hne (z.1.symm.trans c1))]
      have x1 : (if a = u then (-1 : Int) else 0) = 0 := if_neg fun z => hne (z.symm.trans c1)
      have x2 : (if a = w then (-1 : Int) else 0) = -1 := if_pos c1
      have x3 : en q a u = en q w u := by rw [c1]
      rw [this, hq2g, if_pos ⟨c1, rfl⟩, hr0, ← hu, x1, x2, x3]; omega
    · by_cases c2 : a = u
      · have := sm_put (m := m) (j := w) hwm (f := en (q1.set w ((q1.getD w []).set u (en q w u + 1))) a) (g := en q a) fun i hi hn => by
          rw [hq2g, if_neg (fun z => c1 z.1), if_neg (fun z => hn z.2)]
        have x1 : (if a = u then (-1 : Int) else 0) = -1 := if_pos c2
        have x2 : (if a = w then (-1 : Int) else 0) = 0 := if_neg c1
        have x3 : en q a w = en q u w := by rw [c2]
        rw [this, hq2g, if_neg (fun z => c1 z.1), if_pos ⟨c2, rfl⟩, hr0, ← hu, x1, x2, x3]; omega
      · have : sm m (en (q1.set w ((q1.getD w []).set u (en q w u + 1))) a) = sm m (en q a) := sm_congr fun i hi => by
          rw [hq2g, if_neg (fun z => c1 z.1), if_neg (fun z => c2 z.1)]
        have x1 : (if a = u then (-1 : Int) else 0) = 0 := if_neg c2
        have x2 : (if a = w then (-1 : Int) else 0) = 0 := if_neg c1
        rw [this, hr0, ← hu, x1, x2]
end Go.SH
