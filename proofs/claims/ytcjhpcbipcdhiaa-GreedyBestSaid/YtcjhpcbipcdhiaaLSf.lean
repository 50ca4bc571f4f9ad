/-
  The laws SubEdmonds and SubConvex. Conditions: none.
-/
import Derived.Test.YtcjhpcbipcdhiaaLSe
import Derived.Test.YtcjhpcbipcdhiaaLBk
import Derived.Test.YtcjhpcbipcdhiaaSkSubEdmonds
import Derived.Test.YtcjhpcbipcdhiaaSkSubConvex
set_option linter.unusedSimpArgs false
set_option linter.unusedVariables false
namespace Go.SH
open Go Go.AX

theorem sum_filter (g : Nat → Int) (p : Nat → Bool) : ∀ n, sumN ((List.range n).filter p).length (fun j => g (((List.range n).filter p).getD j 0)) = sumN n (fun i => if p i = true then g i else 0) := by
  intro n
  induction n with
  | zero => rfl
  | succ n ih =>
    rw [sumN, ← ih, List.range_succ, List.filter_append]
    cases h : p n
    · simp [h]
    · have e : [n].filter p = [n] := by simp [h]
      rw [e, List.length_append, List.length_singleton, sumN]
      have h1 : ((List.range n).filter p ++ [n]).getD ((List.range n).filter p).length 0 = n := by simp [List.getD_eq_getElem?_getD]
      rw [h1, if_pos rfl]
      congr 1
      refine sumN_congr fun j hj => ?_
      rw [List.getD_eq_getElem?_getD, List.getD_eq_getElem?_getD, List.getElem?_append_left hj]
/-- What a set weighs. -/
theorem Weighs_nat {m : Nat} (h8 : m ≤ 8) (w : List Int) {c : Int} (hc : 0 ≤ c ∧ c ≤ 1000000) (hl : w.length = m) (hb : ∀ i, i < m → -c ≤ wf w i ∧ wf w i ≤ c) {s : Nat} (hs : s < 2 ^ m) : rotaref_Weighs w s = some (wsum m (wf w) s) := by
  have h256 := pow_le8 h8
  refine Gets.eq ?_
  unfold rotaref_Weighs
  refine gBindE (rotaref_Elements_nat s) ?_
  have hle : (els s).length ≤ 8 := by rw [els_len]; exact cnt_le 8 s
  have hmem : ∀ j, j < (els s).length → (els s).getD j 0 < m := fun j hj => bit_lt hs ((els_mem (by omega)).1 (mem_getD.2 ⟨j, hj, rfl⟩))
  have hsum : sumN (els s).length (fun j => wf w ((els s).getD j 0)) = wsum m (wf w) s := by
    unfold els
    rw [sum_filter (wf w) (fun i => s.testBit i) 8]
    have e : ∀ k, m + k ≤ 8 → sumN (m + k) (fun i => if s.testBit i = true then wf w i else 0) = wsum m (wf w) s := by
      intro k
      induction k with
      | zero => intro _; rfl
      | succ k ih =>
        intro hk
        rw [← Nat.add_assoc, sumN, ih (by omega), bit_ge hs (by omega)]
        simp
    have := e (8 - m) (by omega)
    rwa [show m + (8 - m) = 8 by omega] at this
  simp only [cs_len]
  refine gBind (R := fun o => o = wsum m (wf w) s) (gFor (els s).length (fun k (x : Int × Int) => x.2 = (k : Int) ∧ x.1 = sumN k fun j => wf w ((els s).getD j 0)) (Nat.zero_le _) ⟨rfl, rfl⟩ ?_) fun o ho => gSome ho
  rintro k ⟨_, _⟩ hk ⟨rfl, rfl⟩
  simp only [toNat_nat, cs_get]
  refine gIte (fun h4 => ?_) fun h4 => gSome (by have e : k = (els s).length := by omega
                                                 rw [← hsum, e])
  have hk' : k < (els s).length := by omega
  have h1 := hmem k hk'
  have h2 := hb _ h1
  have h3 := sumN_abs8 (n := k) (c := c) (g := fun j => wf w ((els s).getD j 0)) (by omega) fun j hj => hb _ (hmem j (by omega))
  have e1 : w.getD ((els s).getD k 0) 0 = wf w ((els s).getD k 0) := rfl
  rw [e1]
  exact gChk (by omega) (gSome ⟨hk', by simp, rfl⟩)
theorem dot_bound {m : Nat} (h8 : m ≤ 8) {x y : Nat → Int} (hx : ∀ i, i < m → -2000 ≤ x i ∧ x i ≤ 2000) (hy : ∀ i, i < m → -1000 ≤ y i ∧ y i ≤ 1000) : (∀ i, i < m → -2000000 ≤ x i * y i ∧ x i * y i ≤ 2000000) ∧ ∀ k, k ≤ m → -16000000 ≤ sumN k (fun i => x i * y i) ∧ sumN k (fun i => x i * y i) ≤ 16000000 := by
  have h1 : ∀ i, i < m → -2000000 ≤ x i * y i ∧ x i * y i ≤ 2000000 := fun i hi => by
    have a := hx i hi
    have b := hy i hi
    generalize x i = p at a
    generalize y i = q at b
    have d1 : (p.natAbs * q.natAbs) ≤ 2000 * 1000 := Nat.mul_le_mul (by omega) (by omega)
    rw [← Int.natAbs_mul] at d1
    omega
  refine ⟨h1, fun k hk => ?_⟩
  have := sumN_abs8 (n := k) (c := 2000000) (g := fun i => x i * y i) (by omega) fun i hi => h1 i (by omega)
  omega
theorem all_nat {m : Nat} (h : m ≤ 8) : rotaref_All m = some ((2 ^ m - 1 : Nat) : Int) := rotaref_All_nat h
/-- The loop that adds products. -/
theorem dot_loop {m : Nat} (h8 : m ≤ 8) {x w : List Int} (hlx : x.length = m) (hlw : w.length = m) (hx : ∀ i, i < m → -2000 ≤ wf x i ∧ wf x i ≤ 2000) (hw : ∀ i, i < m → -1000 ≤ wf w i ∧ wf w i ≤ 1000) :
    Gets (loopM (ρ := Int) (fun ((v1, v2) : Int × Int) =>
      if v2 < (x.length : Int) then
      chk ((0 ≤ v2 ∧ v2 < x.length) ∧ (0 ≤ v2 ∧ v2 < w.length) ∧ (-9223372036854775808 ≤ ((x.getD v2.toNat 0) * (w.getD v2.toNat 0) : Int) ∧ ((x.getD v2.toNat 0) * (w.getD v2.toNat 0) : Int) ≤ 9223372036854775807) ∧ (-9223372036854775808 ≤ (v1 + ((x.getD v2.toNat 0) * (w.getD v2.toNat 0)) : Int) ∧ (v1 + ((x.getD v2.toNat 0) * (w.getD v2.toNat 0)) : Int) ≤ 9223372036854775807)) <|
      some (.inl (v1 + ((x.getD v2.toNat 0) * (w.getD v2.toNat 0)), v2 + 1))
     else
      some (.inr v1)) (0, 0)) (fun r => r = sumN m fun i => wf x i * wf w i) := by
  obtain ⟨d1, d2⟩ := dot_bound h8 hx hw
  refine gFor m (fun k (s : Int × Int) => s.2 = (k : Int) ∧ s.1 = sumN k fun i => wf x i * wf w i) (Nat.zero_le _) ⟨rfl, rfl⟩ ?_
  rintro k ⟨_, _⟩ hk ⟨rfl, rfl⟩
  simp only [toNat_nat]
  refine gIte (fun h4 => ?_) fun h4 => gSome (by have e : k = m := by omega
                                                 rw [e])
  have hk' : k < m := by omega
  have a := d1 k hk'
  have b := d2 k (by omega)
  have e1 : x.getD k 0 * w.getD k 0 = wf x k * wf w k := rfl
  simp only [e1]
  exact gChk (by omega) (gSome ⟨hk', by simp, rfl⟩)
theorem rotakeep_SubEdmonds_law (n : Int) (f p q w : List Int) : rotakeep_SubEdmonds n f p q w = some true := by
  refine Gets.eq ?_
  unfold rotakeep_SubEdmonds
  have hv : sub_Vertex 1 [0, 3] [0] = some ([3], 0) := by
    have ho : sub_order 1 [0] = some true := by
      unfold sub_order
      rw [loopM_inl (s' := ((1 : Int), (1 : Int))) (by kernel_rfl), loopM_inr (r := .inl ()) (by kernel_rfl)]
      rfl
    unfold sub_Vertex
    rw [show sub_Check 1 [0, 3] = some 0 from (subm1 3 (by omega) (by omega)).check]
    simp only [Option.bind_some, ne_eq, not_true_eq_false, if_false, ho]
    rw [chk_pos (by omega), loopM_inl (s' := (([3] : List Int), (1 : Int), (1 : Int))) (by kernel_rfl), loopM_inr (r := [3]) (by kernel_rfl)]
    rfl
  refine gBindE hv (gIte (fun _ => gBindE (SameB _) (gIte (fun q => absurd rfl q) fun _ => ?_)) fun q => absurd (by simp) q)
  refine gBind (sub_Vertex_spec n f p) ?_
  rintro ⟨x, e⟩ (⟨h1, h2⟩ | ⟨h1, m, rfl, hf, hlx, hbx, hin, hall⟩)
  · exact gIte (fun _ => gSome (by simp only at h2; simp [h2])) fun c => absurd h1 c
  simp only at h1 hlx hbx hin hall
  subst h1
  have h8 := hf.n8
  have h256 := pow_le8 h8
  have hlf := hf.len
  have hpos : 0 < 2 ^ m := Nat.pow_pos (by omega)
  refine gIte (fun c => absurd rfl c) fun _ => ?_
  have hbx' : ∀ i, i < m → -2000 ≤ wf x i ∧ wf x i ≤ 2000 := hbx
  refine gBind (R := fun z => match z with | .inl _ => True | .inr r => False) (gFor (2 ^ m) (fun k v => v = (k : Int)) (Nat.zero_le _) rfl ?_) ?_
  · rintro k _ hk rfl
    refine gIte (fun h3 => ?_) fun h3 => gSome trivial
    have hk' : k < 2 ^ m := by omega
    refine gBindE (Weighs_nat h8 x (c := 2000) (by omega) hlx hbx' hk') (gChk (by omega) ?_)
    simp only [toNat_nat]
    have := hin k hk'
    exact gIte (fun c => absurd c (by unfold wf; omega)) fun _ => gSome ⟨hk', by simp⟩
  rintro (u | rr) hz
  rotate_left
  · exact hz.elim
  refine gBindE (all_nat h8) (gBindE (Weighs_nat h8 x (c := 2000) (by omega) hlx hbx' (by omega)) (gBindE (all_nat h8) (gChk (by omega) ?_)))
  simp only [toNat_nat]
  refine gIte (fun c => absurd hall c) fun _ => ?_
  have hsum : sumN m (wf x) = f.getD (2 ^ m - 1) 0 := by rw [← wsum_all]; exact hall
  refine gBind (sub_Extended_spec m f w) ?_
  rintro ⟨v, e⟩ (⟨h3, h4, _⟩ | ⟨h3, m', h5, _, hW, h6⟩)
  · exact gIte (fun _ => gSome (by simp only at h4; simp [h4])) fun c => absurd h3 c
  have em : m' = m := by omega
  subst em
  simp only at h3 h6
  subst h3 h6
  refine gIte (fun c => absurd rfl c) fun _ => ?_
  have hle := within_le hW (x := wf x) hin hsum
  refine gBind (dot_loop h8 hlx hW.1 hbx' hW.2) ?_
  rintro v3 rfl
  refine gBind (sub_Vertex_spec m' f q) ?_
  rintro ⟨y, e⟩ (⟨h3, h4⟩ | ⟨h3, m2, h5, _, hly, hby, hiny, hally⟩)
  · exact gIte (fun c => absurd c h3) fun _ => gSome (decide_eq_true hle)
  have em : m2 = m' := by omega
  subst em
  simp only at h3 hly hby hiny hally
  subst h3
  refine gIte (fun _ => ?_) fun c => absurd rfl c
  have hby' : ∀ i, i < m2 → -2000 ≤ wf y i ∧ wf y i ≤ 2000 := hby
  have hle2 := within_le hW (x := wf y) hiny (by rw [← wsum_all]; exact hally)
  refine gBind (dot_loop h8 hly hW.1 hby' hW.2) ?_
  rintro v6 rfl
  exact gIte (fun c => absurd c (Int.not_lt.2 hle2)) fun _ => gSome (decide_eq_true hle)

/-! ### SubConvex -/
theorem sumN_const (n : Nat) (c : Int) : sumN n (fun _ => c) = n * c := by
  induction n with
  | zero => simp [sumN]
  | succ n ih => rw [sumN, ih, Int.natCast_add, Int.add_mul]; simp
theorem extV_set {m : Nat} {f w : List Int} {s : Nat} (hf : f.getD 0 0 = 0) (hs : s < 2 ^ m) (hw : ∀ i, i < m → wf w i = if s.testBit i = true then 1 else 0) : extV m f w = f.getD s 0 := by
  have hpos : 0 < 2 ^ m := Nat.pow_pos (by omega)
  have hup : ∀ j, f.getD (upS m (wf w) j) 0 = (if j < 1000 then f.getD (2 ^ m - 1) 0 else 0) + if j = 1000 then f.getD s 0 else 0 := fun j => by
    rcases Nat.lt_trichotomy j 1000 with c | c | c
    · have e : upS m (wf w) j = 2 ^ m - 1 := set_ext (upS_lt _ _ _) (by omega) fun i hi => by
        rw [upS_bit hi, hw i hi, Nat.testBit_two_pow_sub_one]
        simp only [hi, decide_true, decide_eq_true_eq]
        split <;> omega
      rw [e, if_pos c, if_neg (by omega)]; omega
    · have e : upS m (wf w) j = s := set_ext (upS_lt _ _ _) hs fun i hi => by
        rw [upS_bit hi, hw i hi]
        cases s.testBit i
        · simp; omega
        · simp; omega
      rw [e, if_neg (by omega), if_pos c]; omega
    · have e : upS m (wf w) j = 0 := set_ext (upS_lt _ _ _) hpos fun i hi => by
        rw [upS_bit hi, hw i hi, Nat.zero_testBit, decide_eq_false_iff_not]
        split <;> omega
      rw [e, if_neg (by omega), if_neg (by omega), hf]; omega
  unfold extV
  rw [sumN_congr fun j _ => hup j, sumN_add, sumN_single 2000 1000 _ (by omega)]
  have e2 : sumN 2000 (fun j => if j < 1000 then f.getD (2 ^ m - 1) 0 else 0) = f.getD (2 ^ m - 1) 0 * sumN 2000 (fun j => if j < 1000 then 1 else 0) := by
    rw [← sumN_mul]
    exact sumN_congr fun j _ => by split <;> omega
  rw [e2, layer_nat]
  have : ((min 2000 1000 : Nat) : Int) = 1000 := rfl
  rw [this]
  omega
theorem extV_add {m : Nat} {f w u b : List Int} (hf : Subm m f) (hw : WOk m w) (hu : WOk m u) (hb : WOk m b) (h : ∀ i, i < m → wf b i = wf w i + wf u i) : extV m f b ≤ extV m f w + extV m f u := by
  obtain ⟨_, L, _, hO, hs⟩ := sorted_order hb.1 (f := fun x y => cmp_Compare_int (b.getD y.toNat 0) (b.getD x.toNat 0)) fun _ _ _ _ => rfl
  obtain ⟨y, hy⟩ := hO.steps fun j => f.getD (pre L (j + 1)) 0 - f.getD (pre L j) 0
  have h1 := ext_order hf.z hb hO hs hy
  have hin : ∀ a, a < 2 ^ m → wsum m y a ≤ f.getD a 0 := fun a ha => vertex_within hf hO hy ha
  have hall : sumN m y = f.getD (2 ^ m - 1) 0 := by
    rw [hO.sum y, sumN_congr (h := fun j => f.getD (pre L (j + 1)) 0 - f.getD (pre L j) 0) fun j hj => hy j hj, tele (fun j => f.getD (pre L j) 0)]
    show f.getD (pre L m) 0 - f.getD 0 0 = _
    rw [hO.pre_all, hf.z]; omega
  have h2 := within_le hw hin hall
  have h3 := within_le hu hin hall
  have e : sumN m (fun i => y i * wf b i) = sumN m (fun i => y i * wf w i) + sumN m (fun i => y i * wf u i) := by
    rw [← sumN_add]
    exact sumN_congr fun i hi => by rw [h i hi, Int.mul_add]
  omega
theorem IsSet_nat {m : Nat} (h8 : m ≤ 8) (s : Int) : Gets (rotaref_IsSet m s) (fun r => r = true → ∃ a : Nat, s = (a : Int) ∧ a < 2 ^ m) := by
  have h256 := pow_le8 h8
  have hpos : 0 < 2 ^ m := Nat.pow_pos (by omega)
  unfold rotaref_IsSet
  by_cases c : 0 ≤ s
  · rw [if_pos ⟨⟨by omega, by omega⟩, c⟩]
    refine gBindE (all_nat h8) (gSome fun q => ?_)
    have q := of_decide_eq_true q
    obtain ⟨a, rfl⟩ := Int.eq_ofNat_of_zero_le c
    exact ⟨a, rfl, by omega⟩
  · rw [if_neg (fun q => c q.2)]
    refine gBindE rfl (gSome fun q => ?_)
    have q := of_decide_eq_true q
    exact absurd q.1.2 c
theorem rotakeep_SubConvex_law (n : Int) (f w u : List Int) (s : Int) : rotakeep_SubConvex n f w u s = some true := by
  refine Gets.eq ?_
  unfold rotakeep_SubConvex
  refine gBind (R := fun y => y.2 = 0 ∧ y.1 = 6) (Gets.mono (sub_Extended_spec 1 [0, 3] [2]) ?_) ?_
  · rintro y (⟨_, _, h⟩ | ⟨h1, m, h2, h3, h4, h5⟩)
    · exact absurd ⟨1, rfl, (subm1 3 (by omega) (by omega)).toForm, rfl, fun i hi => by
        have : i = 0 := by omega
        subst this
        exact ⟨by decide, by decide⟩⟩ h
    · have e : m = 1 := by omega
      subst e
      refine ⟨h1, ?_⟩
      rw [h5]
      have hO : Ord 1 [0] := Ord.of_perm (by decide)
      have := ext_order (f := [0, 3]) (w := [2]) (m := 1) rfl h4 hO (fun i j hij hj => by omega) (y := fun _ => 3) (fun j hj => by
        have : j = 0 := by omega
        subst this
        decide)
      rw [← this]
      decide
  rintro ⟨_, _⟩ ⟨rfl, rfl⟩
  refine gIte (fun q => absurd q (by simp)) fun _ => gBind (sub_Check_spec n f) ?_
  rintro e (⟨rfl, m, rfl, hf⟩ | ⟨he, _⟩)
  rotate_left
  · exact gIte (fun _ => gSome rfl) fun q => by omega
  have h8 := hf.n8
  have h256 := pow_le8 h8
  have hlf := hf.len
  refine gIte (fun q => absurd rfl q) fun _ => gJoin (R := fun _ => True) (fun _ _ => ?_) fun j hj => ?_
  · refine gBind (sub_Extended_spec m f w) fun a ha => gBind (sub_Extended_spec m f u) fun b hb => gIte (fun _ => gSome rfl) fun q => ?_
    rcases ha with ⟨h1, _⟩ | ⟨h1, m1, h2, _, hw, h3⟩
    · exact absurd (.inl h1) q
    rcases hb with ⟨h4, _⟩ | ⟨h4, m2, h5, _, hu, h6⟩
    · exact absurd (.inr h4) q
    have e1 : m1 = m := by omega
    have e2 : m2 = m := by omega
    subst e1 e2
    have hlw := hw.1
    have hlu := hu.1
    refine gChk (by omega) (gBind (R := fun z => match z with | .inl v => WOk m2 v ∧ ∀ i, i < m2 → wf v i = wf w i + wf u i | .inr r => r = true) (gFor m2 (fun k (x : List Int × Int) => x.2 = (k : Int) ∧ x.1.length = m2 ∧ ∀ j, j < k → wf x.1 j = wf w j + wf u j ∧ -1000 ≤ wf x.1 j ∧ wf x.1 j ≤ 1000) (Nat.zero_le _) ⟨rfl, by simp, fun j hj => absurd hj (Nat.not_lt_zero j)⟩ ?_) ?_)
    · rintro k ⟨v, _⟩ hk ⟨rfl, h7, h8'⟩
      simp only at h7 h8'
      simp only [toNat_nat, List.length_replicate]
      refine gIte (fun h9 => ?_) fun h9 => gSome ⟨⟨h7, fun i hi => (h8' i (by omega)).2⟩, fun i hi => (h8' i (by omega)).1⟩
      have hk' : k < m2 := by omega
      have b1 := hw.2 k hk'
      have b2 := hu.2 k hk'
      unfold wf at b1 b2
      have e3 : (v.set k (w.getD k 0 + u.getD k 0)).getD k 0 = w.getD k 0 + u.getD k 0 := by rw [set_getD _ (by omega), if_pos rfl]
      simp only [e3]
      refine gChk (by omega) (gChk (by omega) (gIte (fun _ => gSome rfl) fun c => gSome ⟨hk', by simp, by simpa using h7, fun j hj => ?_⟩))
      unfold wf
      rw [set_getD _ (by omega)]
      by_cases d : j = k
      · rw [if_pos d, d]
        exact ⟨rfl, by omega, by omega⟩
      · rw [if_neg d]; exact h8' j (by omega)
    rintro (v | rr) hz
    rotate_left
    · exact gSome hz
    obtain ⟨hv, hvs⟩ := hz
    refine gBind (sub_Extended_spec m2 f v) ?_
    rintro c (⟨_, _, h9⟩ | ⟨h9, m3, h10, _, _, h11⟩)
    · exact absurd ⟨m2, rfl, hf.toForm, hv⟩ h9
    have e3 : m3 = m2 := by omega
    subst e3
    have key := extV_add hf hw hu hv hvs
    have b1 : ∀ x : List Int, WOk m3 x → -4000000 ≤ extV m3 f x ∧ extV m3 f x ≤ 4000000 := fun x hx => by
      unfold extV
      have c1 := hf.bd (2 ^ m3 - 1) (by have : 0 < 2 ^ m3 := Nat.pow_pos (by omega)
                                        omega)
      have c2 := sumN_le (n := 2000) (g := fun j => f.getD (upS m3 (wf x) j) 0) (h := fun _ => 1000) fun j _ => (hf.bd _ (upS_lt _ _ _)).2
      have c3 := sumN_le (n := 2000) (g := fun _ => -1000) (h := fun j => f.getD (upS m3 (wf x) j) 0) fun j _ => (hf.bd _ (upS_lt _ _ _)).1
      have c4 := sumN_const 2000 1000
      have c5 := sumN_const 2000 (-1000)
      omega
    have d1 := b1 w hw
    have d2 := b1 u hu
    rw [h3, h6, h9, h11]
    exact gChk (fun _ => by omega) (gSome (decide_eq_true ⟨rfl, key⟩))
  · refine gBind (IsSet_nat h8 s) fun r hr => gIte (fun q => ?_) fun _ => hj () trivial
    obtain ⟨a, rfl, ha⟩ := hr q
    refine gChk (by omega) (gBindE (rotaref_Elements_nat a) ?_)
    have hmem : ∀ j, j < (els a).length → (els a).getD j 0 < m := fun j hj => bit_lt ha ((els_mem (by omega)).1 (mem_getD.2 ⟨j, hj, rfl⟩))
    simp only [cs_len]
    refine gBind (R := fun v => v.length = m ∧ ∀ i, i < m → wf v i = if a.testBit i = true then 1 else 0) (gFor (els a).length (fun k (x : List Int × Int) => x.2 = (k : Int) ∧ x.1.length = m ∧ ∀ i, i < m → (wf x.1 i = 1 ∧ ∃ j, j < k ∧ (els a).getD j 0 = i) ∨ (wf x.1 i = 0 ∧ ¬ ∃ j, j < k ∧ (els a).getD j 0 = i)) (Nat.zero_le _) ⟨rfl, by simp, fun i hi => .inr ⟨by simp [wf, List.getD_eq_getElem?_getD, List.getElem?_replicate, hi], by simp⟩⟩ ?_) ?_
    · rintro k ⟨v, _⟩ hk ⟨rfl, h7, h8'⟩
      simp only at h7 h8'
      simp only [toNat_nat, cs_get]
      refine gIte (fun h9 => ?_) fun h9 => gSome ⟨h7, fun i hi => ?_⟩
      · have hk' : k < (els a).length := by omega
        have hlt := hmem k hk'
        refine gChk (by omega) (gChk (by omega) (gSome ⟨hk', by simp, by simpa using h7, fun i hi => ?_⟩))
        unfold wf
        rw [set_getD _ (by omega)]
        by_cases d : i = (els a).getD k 0
        · rw [if_pos d]; exact .inl ⟨rfl, k, by omega, d.symm⟩
        · rw [if_neg d]
          rcases h8' i hi with ⟨q1, j, q2, q3⟩ | ⟨q1, q2⟩
          · exact .inl ⟨q1, j, by omega, q3⟩
          · refine .inr ⟨q1, fun ⟨j, q3, q4⟩ => ?_⟩
            rcases Nat.lt_succ_iff_lt_or_eq.1 q3 with c | rfl
            · exact q2 ⟨j, c, q4⟩
            · exact d q4.symm
      · have hb : a.testBit i = true ↔ ∃ j, j < (els a).length ∧ (els a).getD j 0 = i := by rw [← els_mem (by omega), mem_getD]
        have e : k = (els a).length := by omega
        rcases h8' i hi with ⟨q1, q2⟩ | ⟨q1, q2⟩
        · rw [q1, if_pos (hb.2 (by rw [← e]; exact q2))]
        · rw [q1, if_neg fun q => q2 (by rw [e]; exact hb.1 q)]
    rintro v ⟨hlv, hv⟩
    have hW : WOk m v := ⟨hlv, fun i hi => by rw [hv i hi]; split <;> omega⟩
    refine gBind (sub_Extended_spec m f v) ?_
    rintro c (⟨_, _, h9⟩ | ⟨h9, m3, h10, _, _, h11⟩)
    · exact absurd ⟨m, rfl, hf.toForm, hW⟩ h9
    have e3 : m3 = m := by omega
    subst e3
    rw [h9, h11, extV_set hf.z ha hv]
    refine gChk (fun _ => by omega) (gIte (fun q => ?_) fun _ => hj () trivial)
    rcases q with q | q
    · exact absurd rfl q
    · exact absurd rfl q
end Go.SH
