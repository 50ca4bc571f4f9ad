/-
  Bases with numbers as the program checks them; the statement ValuesPluecker as a plain law. Conditions: the list is no longer than 2^43.
-/
import Derived.Test.YtdfclknhgpkghaaLV0
import Derived.Test.YtdfclknhgpkghaaLA
import Derived.Test.YtdfclknhgpkghaaLR
import Derived.Test.YtdfclknhgpkghaaEVal
import Derived.Test.YtdfclknhgpkghaaSkValuesPluecker
set_option linter.unusedSimpArgs false
set_option linter.unusedVariables false
namespace Go.SH
open Go Go.AX

/-- Sets as numbers, with numbers. -/
def vcs (V : List (Nat × Int)) : List (Int × Int) := V.map fun p => ((p.1 : Int), p.2)
@[simp] theorem vcs_len (V : List (Nat × Int)) : (vcs V).length = V.length := by simp [vcs]
theorem vcs_get (V : List (Nat × Int)) (k : Nat) : (vcs V).getD k (0, 0) = (((V.getD k (0, 0)).1 : Int), (V.getD k (0, 0)).2) := by
  simp only [vcs, List.getD_eq_getElem?_getD, List.getElem?_map]
  cases V[k]? <;> rfl
theorem vmem_getD {V : List (Nat × Int)} {a : Nat × Int} : a ∈ V ↔ ∃ k, k < V.length ∧ V.getD k (0, 0) = a := by
  rw [List.mem_iff_getElem?]
  constructor
  · rintro ⟨i, hi⟩
    exact ⟨i, (List.getElem?_eq_some_iff.1 hi).1, by rw [List.getD_eq_getElem?_getD, hi]; rfl⟩
  · rintro ⟨k, h1, h2⟩
    refine ⟨k, ?_⟩
    rw [List.getElem?_eq_getElem h1]
    rw [List.getD_eq_getElem?_getD, List.getElem?_eq_getElem h1] at h2
    exact congrArg some h2
theorem map_getD (V : List (Nat × Int)) (k : Nat) : (V.map (·.1)).getD k 0 = (V.getD k (0, 0)).1 := by
  simp only [List.getD_eq_getElem?_getD, List.getElem?_map]
  cases V[k]? <;> rfl

/-- Bases with numbers: a matroid's bases, rising. -/
structure Vals (m : Nat) (V : List (Nat × Int)) : Prop where
  mat : Mat m (V.map (·.1))
  num : ∀ p, p ∈ V → -1000 ≤ p.2 ∧ p.2 ≤ 1000
theorem Vals.rise {m : Nat} {V : List (Nat × Int)} (h : Vals m V) : ∀ i j, i < j → j < V.length → (V.getD i (0, 0)).1 < (V.getD j (0, 0)).1 := fun i j h1 h2 => by
  have := h.mat.rise i j h1 (by simpa using h2)
  rwa [map_getD, map_getD] at this
theorem Vals.lt {m : Nat} {V : List (Nat × Int)} (h : Vals m V) : ∀ k, k < V.length → (V.getD k (0, 0)).1 < 2 ^ m := fun k hk => by
  rw [← map_getD]; exact h.mat.lt _ (mem_getD.2 ⟨k, by simpa using hk, rfl⟩)
theorem Vals.len {m : Nat} {V : List (Nat × Int)} (h : Vals m V) : V.length ≤ 256 := by have := h.mat.len; simpa using this
theorem Vals.uniq {m : Nat} {V : List (Nat × Int)} (h : Vals m V) {b : Nat} {p q : Int} (h1 : (b, p) ∈ V) (h2 : (b, q) ∈ V) : p = q := by
  obtain ⟨i, i1, i2⟩ := vmem_getD.1 h1
  obtain ⟨j, j1, j2⟩ := vmem_getD.1 h2
  have e : i = j := by
    rcases Nat.lt_trichotomy i j with c | c | c
    · have := h.rise i j c j1; rw [i2, j2] at this; exact absurd this (Nat.lt_irrefl _)
    · exact c
    · have := h.rise j i c i1; rw [i2, j2] at this; exact absurd this (Nat.lt_irrefl _)
  subst e
  rw [i2] at j2
  exact (Prod.mk.inj j2).2

theorem values_under_spec (n : Int) (l : List (Int × Int)) (hl : l.length ≤ 8796093022208) : Gets (values_under n l) (fun r => r.2.2 = 0 → ∃ m V, n = (m : Nat) ∧ l = vcs V ∧ Vals m V) := by
  unfold values_under
  refine gBind (R := fun o => o = l.map (·.1)) (gFor l.length (fun k (x : List Int × Int) => x.2 = (k : Int) ∧ x.1 = (l.map (·.1)).take k) (Nat.zero_le _) ⟨rfl, rfl⟩ ?_) ?_
  · rintro k ⟨_, _⟩ hk ⟨rfl, rfl⟩
    simp only [toNat_nat]
    refine gIte (fun h1 => gChk (by omega) (gChk (by simp; omega) (gSome ⟨by omega, by simp, ?_⟩))) fun h1 => gSome (by rw [List.take_of_length_le (by simp; omega)])
    have hk' : k < l.length := by omega
    show _ = (l.map (·.1)).take (k + 1)
    rw [List.take_add_one, List.getElem?_map, List.getD_eq_getElem?_getD, List.getElem?_eq_getElem hk']
    rfl
  · rintro o rfl
    refine gBind (axioms_Check_spec n (l.map (·.1)) (by simp; omega)) fun y hy => gIte (fun q => gSome fun e => absurd e q) fun q => ?_
    rcases hy with ⟨_, m, B, rfl, h2, hM⟩ | ⟨h0, _⟩
    rotate_left
    · exact absurd h0 q
    refine gBind (R := fun z => match z with | .inl _ => ∀ k, k < l.length → -1000 ≤ (l.getD k (0, 0)).2 ∧ (l.getD k (0, 0)).2 ≤ 1000 | .inr r => r.2.2 ≠ 0)
      (gFor l.length (fun k v => v = (k : Int) ∧ ∀ j, j < k → -1000 ≤ (l.getD j (0, 0)).2 ∧ (l.getD j (0, 0)).2 ≤ 1000) (Nat.zero_le _) ⟨rfl, none_all⟩ ?_) ?_
    · rintro k _ hk ⟨rfl, hb⟩
      simp only [toNat_nat]
      refine gIte (fun h1 => gChk (by omega) (gIte (fun h3 => gSome (by simp)) fun h3 => gSome ⟨by omega, by simp, step_all hb (by omega)⟩)) fun h1 => gSome fun j hj => hb j (by omega)
    · rintro (u | rr) hz
      · refine gSome fun _ => ⟨m, l.map fun p => (p.1.toNat, p.2), rfl, ?_, ?_⟩
        · have h0 : ∀ p, p ∈ l → 0 ≤ p.1 := fun p hp => by
            have : p.1 ∈ cs B := by rw [← h2]; exact List.mem_map_of_mem hp
            simp only [cs, List.mem_map] at this
            obtain ⟨a, _, e⟩ := this
            omega
          unfold vcs
          rw [List.map_map]
          conv => lhs; rw [← List.map_id l]
          refine List.map_congr_left fun p hp => ?_
          have := h0 p hp
          simp only [id, Function.comp_apply]
          exact Prod.ext (by simp only; omega) rfl
        · have e : (l.map fun p => (p.1.toNat, p.2)).map (·.1) = B := by
            have := congrArg (List.map Int.toNat) h2
            rw [List.map_map] at this
            rw [List.map_map]
            refine Eq.trans ?_ (this.trans ?_)
            · rfl
            · unfold cs; rw [List.map_map]
              conv => rhs; rw [← List.map_id B]
              exact List.map_congr_left fun a _ => rfl
          refine ⟨by rw [e]; exact hM, fun p hp => ?_⟩
          obtain ⟨q', hq', rfl⟩ := List.mem_map.1 hp
          rw [List.mem_iff_getElem?] at hq'
          obtain ⟨k, hk⟩ := hq'
          have hk' := (List.getElem?_eq_some_iff.1 hk).1
          have := hz k hk'
          rw [List.getD_eq_getElem?_getD, hk] at this
          exact this
      · exact gSome fun e => absurd e hz

theorem values_of_spec {m : Nat} {V : List (Nat × Int)} (h : Vals m V) {b : Nat} (hb : b < 2 ^ 60) : Gets (values_of (vcs V) b) (fun r => (r.2 = true ∧ (b, r.1) ∈ V) ∨ (r.2 = false ∧ ∀ p, (b, p) ∉ V)) := by
  have hlen := h.len
  have h256 := pow_le8 h.mat.m8
  have one : ∀ (k : Nat) (x1 : Int), k < V.length → values_of_1 ((V.getD k (0, 0)).1 : Nat) x1 b = some (((V.getD k (0, 0)).1 : Int) - b) := fun k x1 hk => by
    have := h.lt k hk
    unfold values_of_1
    exact chk_pos (by omega)
  unfold values_of slices_BinarySearchFunc_api_Value_api_Value_int
  simp only [vcs_len]
  refine gBind (R := fun r : Int × Bool => ∃ k : Nat, r.1 = (k : Int) ∧ ((r.2 = true ∧ k < V.length ∧ (V.getD k (0, 0)).1 = b) ∨ (r.2 = false ∧ ∀ p, (b, p) ∉ V))) (gBind (R := fun i => ∃ k : Nat, i = (k : Int) ∧ k ≤ V.length ∧ (∀ j, j < k → (V.getD j (0, 0)).1 < b) ∧ ∀ j, k ≤ j → j < V.length → b ≤ (V.getD j (0, 0)).1)
    (gLoop (fun s => ∃ a c : Nat, s.1 = (a : Int) ∧ s.2 = (c : Int) ∧ a ≤ c ∧ c ≤ V.length ∧ (∀ j, j < a → (V.getD j (0, 0)).1 < b) ∧ ∀ j, c ≤ j → j < V.length → b ≤ (V.getD j (0, 0)).1) (fun s => (s.2 - s.1).toNat) ⟨0, V.length, rfl, rfl, Nat.zero_le _, Nat.le_refl _, none_all, fun j h1 h2 => by omega⟩ ?_) ?_) ?_
  · rintro ⟨_, _⟩ ⟨a, c, rfl, rfl, hab, hc, h1, h2⟩
    simp only
    refine gIte (fun h3 => ?_) fun h3 => gSome ⟨a, rfl, by omega, h1, fun j hj => h2 j (by omega)⟩
    have e : ((a : Int) + c) / 2 ^ 1 = (((a + c) / 2 : Nat) : Int) := by omega
    simp only [e, toNat_nat, vcs_get]
    have hmid : (a + c) / 2 < V.length := by omega
    have hmlt := h.lt _ hmid
    refine gChk (by omega) (gChk (by omega) ?_)
    rw [one _ _ hmid]
    simp only [Option.bind_some]
    refine gIte (fun h4 => gChk (by omega) (gSome ⟨⟨(a + c) / 2 + 1, c, by simp, rfl, by omega, hc, fun j hj => ?_, h2⟩, by simp only; omega⟩)) fun h4 => gSome ⟨⟨a, (a + c) / 2, rfl, rfl, by omega, by omega, h1, fun j h5 h6 => ?_⟩, by simp only; omega⟩
    · rcases Nat.lt_or_ge j ((a + c) / 2) with q | q
      · have := h.rise j ((a + c) / 2) q (by omega); omega
      · have : j = (a + c) / 2 := by omega
        subst this; omega
    · rcases Nat.lt_or_ge ((a + c) / 2) j with q | q
      · have := h.rise ((a + c) / 2) j q h6; omega
      · have : j = (a + c) / 2 := by omega
        subst this; omega
  · rintro _ ⟨k, rfl, hk, h1, h2⟩
    simp only [toNat_nat, vcs_get]
    refine gChk (by omega) ?_
    rcases Nat.lt_or_ge k V.length with q | q
    · rw [if_pos (by omega), one _ _ q]
      simp only [Option.bind_some]
      refine gSome ⟨k, rfl, ?_⟩
      have hkb := h2 k (Nat.le_refl _) q
      by_cases e : (V.getD k (0, 0)).1 = b
      · exact .inl ⟨decide_eq_true (by omega), q, e⟩
      · refine .inr ⟨decide_eq_false (by omega), fun p hp => ?_⟩
        obtain ⟨j, hj, e2⟩ := vmem_getD.1 hp
        have e3 : (V.getD j (0, 0)).1 = b := by rw [e2]
        rcases Nat.lt_trichotomy j k with c | c | c
        · have := h1 j c; omega
        · subst c; exact e e3
        · have := h.rise k j c hj; omega
    · rw [if_neg (by omega)]
      refine gSome ⟨k, rfl, .inr ⟨rfl, fun p hp => ?_⟩⟩
      obtain ⟨j, hj, e2⟩ := vmem_getD.1 hp
      have e3 : (V.getD j (0, 0)).1 = b := by rw [e2]
      have := h1 j (by omega); omega
  · rintro ⟨_, r2⟩ ⟨k, rfl, hr⟩
    simp only at hr ⊢
    rcases hr with ⟨rfl, hk, e⟩ | ⟨rfl, hn⟩
    · refine gIte (fun q => absurd rfl q) fun _ => gChk (by omega) (gSome (.inl ⟨rfl, ?_⟩))
      simp only [toNat_nat, vcs_get]
      exact vmem_getD.2 ⟨k, hk, Prod.ext e rfl⟩
    · exact gIte (fun _ => gSome (.inr ⟨rfl, hn⟩)) fun q => absurd (by simp) q

/-- May it be exchanged, the numbers no less? -/
def Mv (V : List (Nat × Int)) (a b : Nat × Int) (x y : Nat) : Prop := ∃ p q, (dif a.1 (2 ^ x) ||| 2 ^ y, p) ∈ V ∧ (dif b.1 (2 ^ y) ||| 2 ^ x, q) ∈ V ∧ a.2 + b.2 ≤ p + q
theorem values_Check_spec (n : Int) (l : List (Int × Int)) (hl : l.length ≤ 8796093022208) : Gets (values_Check n l) (fun r => r = 0 → ∃ m V, n = (m : Nat) ∧ l = vcs V ∧ Vals m V ∧ Exv V) := by
  unfold values_Check
  refine gBind (values_under_spec n l hl) fun y hy => gIte (fun q => gSome fun e => absurd e q) fun q => ?_
  obtain ⟨m, V, rfl, rfl, hV⟩ := hy (by simpa using q)
  have hlen := hV.len
  have h8 := hV.mat.m8
  have h256 := pow_le8 h8
  refine gBind (R := fun z => match z with | .inl _ => ∀ i, i < V.length → ∀ j, j < V.length → ∀ x, (V.getD i (0, 0)).1.testBit x = true → (V.getD j (0, 0)).1.testBit x = false → ∃ y, (V.getD j (0, 0)).1.testBit y = true ∧ (V.getD i (0, 0)).1.testBit y = false ∧ Mv V (V.getD i (0, 0)) (V.getD j (0, 0)) x y | .inr r => r ≠ 0)
    (gFor V.length (fun k v => v = (k : Int) ∧ ∀ i, i < k → ∀ j, j < V.length → ∀ x, (V.getD i (0, 0)).1.testBit x = true → (V.getD j (0, 0)).1.testBit x = false → ∃ y, (V.getD j (0, 0)).1.testBit y = true ∧ (V.getD i (0, 0)).1.testBit y = false ∧ Mv V (V.getD i (0, 0)) (V.getD j (0, 0)) x y) (Nat.zero_le _) ⟨rfl, none_all⟩ ?_) ?_
  · rintro i _ hi ⟨rfl, hbi⟩
    simp only [vcs_len, vcs_get, toNat_nat]
    refine gIte (fun h1 => gChk (by omega) ?_) fun h1 => gSome fun j hj => hbi j (by omega)
    have hi' : i < V.length := by omega
    have ha := hV.lt i hi'
    have han := hV.num _ (vmem_getD.2 ⟨i, hi', rfl⟩)
    generalize hae : V.getD i (0, 0) = a at *
    refine gBind (R := fun z => match z with | .inl _ => ∀ j, j < V.length → ∀ x, a.1.testBit x = true → (V.getD j (0, 0)).1.testBit x = false → ∃ y, (V.getD j (0, 0)).1.testBit y = true ∧ a.1.testBit y = false ∧ Mv V a (V.getD j (0, 0)) x y | .inr r => r ≠ 0)
      (gFor V.length (fun k v => v = (k : Int) ∧ ∀ j, j < k → ∀ x, a.1.testBit x = true → (V.getD j (0, 0)).1.testBit x = false → ∃ y, (V.getD j (0, 0)).1.testBit y = true ∧ a.1.testBit y = false ∧ Mv V a (V.getD j (0, 0)) x y) (Nat.zero_le _) ⟨rfl, none_all⟩ ?_) ?_
    · rintro j _ hj ⟨rfl, hbj⟩
      simp only [vcs_len, vcs_get, toNat_nat]
      refine gIte (fun h1 => gChk (by omega) ?_) fun h1 => gSome fun k hk => hbj k (by omega)
      have hj' : j < V.length := by omega
      have hb := hV.lt j hj'
      have hbn := hV.num _ (vmem_getD.2 ⟨j, hj', rfl⟩)
      simp only [dif_nat]
      have hda : dif a.1 (V.getD j (0, 0)).1 < 256 := dif_lt (n := 8) (by omega)
      have hdb : dif (V.getD j (0, 0)).1 a.1 < 256 := dif_lt (n := 8) (by omega)
      refine gBind (R := fun z => match z with | .inl _ => ∀ x, a.1.testBit x = true → (V.getD j (0, 0)).1.testBit x = false → ∃ y, (V.getD j (0, 0)).1.testBit y = true ∧ a.1.testBit y = false ∧ Mv V a (V.getD j (0, 0)) x y | .inr r => r ≠ 0)
        (gLoop (fun o => ∃ t : Nat, o = (t : Int) ∧ t < 256 ∧ Inc t (dif a.1 (V.getD j (0, 0)).1) ∧ ∀ x, a.1.testBit x = true → (V.getD j (0, 0)).1.testBit x = false → t.testBit x = false → ∃ y, (V.getD j (0, 0)).1.testBit y = true ∧ a.1.testBit y = false ∧ Mv V a (V.getD j (0, 0)) x y) (fun o => o.toNat) (s0 := ((dif a.1 (V.getD j (0, 0)).1 : Nat) : Int)) ⟨_, rfl, hda, Inc.refl _, fun x h1 h2 h3 => ?_⟩ ?_) ?_
      · rw [testBit_dif, h1, h2] at h3; cases h3
      · rintro _ ⟨t, rfl, ht, hta, hall⟩
        refine gIte (fun h1 => ?_) fun h1 => gSome fun x h2 h3 => hall x h2 h3 (by have : t = 0 := by omega
                                                                                   subst this; simp)
        have hlow := low_spec ht (show t ≠ 0 by omega)
        have hbit := hta _ hlow.bit
        rw [testBit_dif] at hbit
        simp only [Bool.and_eq_true, Bool.not_eq_true'] at hbit
        have hless := hlow.less
        have hx8 := bit_lt (m := 8) ht hlow.bit
        refine gChk (by omega) ?_
        simp only [hlow.neg, hlow.rest, dif_nat]
        refine gBind (R := fun r => r = true → ∃ y, (V.getD j (0, 0)).1.testBit y = true ∧ a.1.testBit y = false ∧ Mv V a (V.getD j (0, 0)) (lo1 t) y)
          (gLoop (fun o => ∃ u : Nat, o.2 = (u : Int) ∧ u < 256 ∧ Inc u (dif (V.getD j (0, 0)).1 a.1) ∧ (o.1 = true → ∃ y, (V.getD j (0, 0)).1.testBit y = true ∧ a.1.testBit y = false ∧ Mv V a (V.getD j (0, 0)) (lo1 t) y)) (fun o => o.2.toNat) (s0 := (false, ((dif (V.getD j (0, 0)).1 a.1 : Nat) : Int)))
            ⟨_, rfl, hdb, Inc.refl _, fun h => by simp at h⟩ ?_) ?_
        · rintro ⟨ok, _⟩ ⟨u, rfl, hu, huc, hok1⟩
          simp only at hok1 ⊢
          refine gIte (fun h2 => ?_) fun h2 => gSome hok1
          have hlow2 := low_spec hu (show u ≠ 0 by omega)
          have hbit2 := huc _ hlow2.bit
          rw [testBit_dif] at hbit2
          simp only [Bool.and_eq_true, Bool.not_eq_true'] at hbit2
          have hless2 := hlow2.less
          have hy8 := bit_lt (m := 8) hu hlow2.bit
          refine gChk (by omega) ?_
          simp only [hlow2.neg, hlow2.rest, dif_nat, or_nat]
          have k1 : dif a.1 (2 ^ lo1 t) ||| 2 ^ lo1 u < 2 ^ 60 := or_lt (dif_lt (by omega)) (pow_lt (by omega))
          have k2 : dif (V.getD j (0, 0)).1 (2 ^ lo1 u) ||| 2 ^ lo1 t < 2 ^ 60 := or_lt (dif_lt (by omega)) (pow_lt (by omega))
          refine gBind (values_of_spec hV k1) fun y1 hy1 => gBind (values_of_spec hV k2) fun y2 hy2 => ?_
          have bnd : y1.2 = true ∧ y2.2 = true → (-1000 ≤ y1.1 ∧ y1.1 ≤ 1000) ∧ (-1000 ≤ y2.1 ∧ y2.1 ≤ 1000) := by
            rintro ⟨c1, c2⟩
            rcases hy1 with ⟨_, hy1⟩ | ⟨hy1, _⟩
            · rcases hy2 with ⟨_, hy2⟩ | ⟨hy2, _⟩
              · exact ⟨hV.num _ hy1, hV.num _ hy2⟩
              · rw [c2] at hy2; cases hy2
            · rw [c1] at hy1; cases hy1
          refine gChk ⟨fun _ => by omega, fun c => by have := bnd c; omega⟩ (gChk (by omega) (gSome ⟨⟨_, rfl, by omega, (inc_dif _ _).trans huc, fun h3 => ?_⟩, by simp only [toNat_nat]; omega⟩))
          obtain ⟨⟨c1, c2⟩, c3⟩ := of_decide_eq_true h3
          rcases hy1 with ⟨_, hy1⟩ | ⟨hy1, _⟩
          · rcases hy2 with ⟨_, hy2⟩ | ⟨hy2, _⟩
            · exact ⟨_, hbit2.1, hbit2.2, _, _, hy1, hy2, c3⟩
            · rw [c2] at hy2; cases hy2
          · rw [c1] at hy1; cases hy1
        · intro ok hok
          refine gIte (fun h2 => gSome (show (6 : Int) ≠ 0 by omega)) fun h2 => gChk (by omega) (gSome ⟨⟨_, rfl, by omega, (inc_dif _ _).trans hta, fun x h3 h4 h5 => ?_⟩, by simp only [toNat_nat]; omega⟩)
          rw [testBit_dif, testBit_pow] at h5
          by_cases e : lo1 t = x
          · subst e; exact hok (by simpa using h2)
          · have : decide (lo1 t = x) = false := by simp [e]
            rw [this] at h5
            exact hall x h3 h4 (by simpa using h5)
      · rintro (u | rr) hz
        · exact gSome ⟨hj', by simp, step_all hbj hz⟩
        · exact gSome hz
    · rintro (u | rr) hz
      · exact gSome ⟨hi', by simp, step_all hbi (by rw [hae]; exact hz)⟩
      · exact gSome hz
  · rintro (u | rr) hz
    · refine gSome fun _ => ⟨m, V, rfl, rfl, hV, fun a ha b hb x h1 h2 => ?_⟩
      obtain ⟨i, i1, rfl⟩ := vmem_getD.1 ha
      obtain ⟨j, j1, rfl⟩ := vmem_getD.1 hb
      obtain ⟨y, y1, y2, p, q, y3, y4, y5⟩ := hz i i1 j j1 x h1 h2
      exact ⟨y, p, q, y1, y2, y3, y4, y5⟩
    · exact gSome fun e => absurd e hz
end Go.SH
