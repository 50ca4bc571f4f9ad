/-
  Bases with the number nought: the program's check passes them. Conditions: none.
-/
import Derived.Test.YtcjhpcbipcdhiaaLGa
import Derived.Test.YtcjhpcbipcdhiaaSpvalues
set_option linter.unusedSimpArgs false
set_option linter.unusedVariables false
namespace Go.SH
open Go Go.AX

/-- Sets as numbers, with numbers. -/
def vcs (V : List (Nat × Int)) : List (Int × Int) := V.map fun p => ((p.1 : Int), p.2)
@[simp] theorem vcs_len (V : List (Nat × Int)) : (vcs V).length = V.length := by simp [vcs]
theorem vcs_get (V : List (Nat × Int)) (k : Nat) : (vcs V).getD k (0, 0) = (((V.getD k (0, 0)).1 : Int), (V.getD k (0, 0)).2) := by
  simp only [vcs, List.getD_eq_getElem?_getD, List.getElem?_map]
  cases V[k]? <;> rfl
theorem vmem_getD {V : List (Nat × Int)} {a : Nat × Int} : a ∈ V ↔ ∃ k, k < V.length ∧ V.getD k (0, 0) = a := by
  rw [List.mem_iff_getElem?]
  constructor
  · rintro ⟨i, hi⟩
    exact ⟨i, (List.getElem?_eq_some_iff.1 hi).1, by rw [List.getD_eq_getElem?_getD, hi]; rfl⟩
  · rintro ⟨k, h1, h2⟩
    refine ⟨k, ?_⟩
    rw [List.getElem?_eq_getElem h1]
    rw [List.getD_eq_getElem?_getD, List.getElem?_eq_getElem h1] at h2
    exact congrArg some h2
theorem map_getD (V : List (Nat × Int)) (k : Nat) : (V.map (·.1)).getD k 0 = (V.getD k (0, 0)).1 := by
  simp only [List.getD_eq_getElem?_getD, List.getElem?_map]
  cases V[k]? <;> rfl

/-- Bases with numbers: a matroid's bases, rising. -/
structure Vals (m : Nat) (V : List (Nat × Int)) : Prop where
  mat : Mat m (V.map (·.1))
  num : ∀ p, p ∈ V → -1000 ≤ p.2 ∧ p.2 ≤ 1000
theorem Vals.rise {m : Nat} {V : List (Nat × Int)} (h : Vals m V) : ∀ i j, i < j → j < V.length → (V.getD i (0, 0)).1 < (V.getD j (0, 0)).1 := fun i j h1 h2 => by
  have := h.mat.rise i j h1 (by simpa using h2)
  rwa [map_getD, map_getD] at this
theorem Vals.lt {m : Nat} {V : List (Nat × Int)} (h : Vals m V) : ∀ k, k < V.length → (V.getD k (0, 0)).1 < 2 ^ m := fun k hk => by
  rw [← map_getD]; exact h.mat.lt _ (mem_getD.2 ⟨k, by simpa using hk, rfl⟩)
theorem Vals.len {m : Nat} {V : List (Nat × Int)} (h : Vals m V) : V.length ≤ 256 := by have := h.mat.len; simpa using this
theorem Vals.uniq {m : Nat} {V : List (Nat × Int)} (h : Vals m V) {b : Nat} {p q : Int} (h1 : (b, p) ∈ V) (h2 : (b, q) ∈ V) : p = q := by
  obtain ⟨i, i1, i2⟩ := vmem_getD.1 h1
  obtain ⟨j, j1, j2⟩ := vmem_getD.1 h2
  have e : i = j := by
    rcases Nat.lt_trichotomy i j with c | c | c
    · have := h.rise i j c j1; rw [i2, j2] at this; exact absurd this (Nat.lt_irrefl _)
    · exact c
    · have := h.rise j i c i1; rw [i2, j2] at this; exact absurd this (Nat.lt_irrefl _)
  subst e
  rw [i2] at j2
  exact (Prod.mk.inj j2).2
theorem values_of_spec {m : Nat} {V : List (Nat × Int)} (h : Vals m V) {b : Nat} (hb : b < 2 ^ 60) : Gets (values_of (vcs V) b) (fun r => (r.2 = true ∧ (b, r.1) ∈ V) ∨ (r.2 = false ∧ ∀ p, (b, p) ∉ V)) := by
  have hlen := h.len
  have h256 := pow_le8 h.mat.m8
  have one : ∀ (k : Nat) (x1 : Int), k < V.length → values_of_1 ((V.getD k (0, 0)).1 : Nat) x1 b = some (((V.getD k (0, 0)).1 : Int) - b) := fun k x1 hk => by
    have := h.lt k hk
    unfold values_of_1
    exact chk_pos (by omega)
  unfold values_of slices_BinarySearchFunc_api_Value_api_Value_int
  simp only [vcs_len]
  refine gBind (R := fun r : Int × Bool => ∃ k : Nat, r.1 = (k : Int) ∧ ((r.2 = true ∧ k < V.length ∧ (V.getD k (0, 0)).1 = b) ∨ (r.2 = false ∧ ∀ p, (b, p) ∉ V))) (gBind (R := fun i => ∃ k : Nat, i = (k : Int) ∧ k ≤ V.length ∧ (∀ j, j < k → (V.getD j (0, 0)).1 < b) ∧ ∀ j, k ≤ j → j < V.length → b ≤ (V.getD j (0, 0)).1)
    (gLoop (fun s => ∃ a c : Nat, s.1 = (a : Int) ∧ s.2 = (c : Int) ∧ a ≤ c ∧ c ≤ V.length ∧ (∀ j, j < a → (V.getD j (0, 0)).1 < b) ∧ ∀ j, c ≤ j → j < V.length → b ≤ (V.getD j (0, 0)).1) (fun s => (s.2 - s.1).toNat) ⟨0, V.length, rfl, rfl, Nat.zero_le _, Nat.le_refl _, none_all, fun j h1 h2 => by omega⟩ ?_) ?_) ?_
  · rintro ⟨_, _⟩ ⟨a, c, rfl, rfl, hab, hc, h1, h2⟩
    simp only
    refine gIte (fun h3 => ?_) fun h3 => gSome ⟨a, rfl, by omega, h1, fun j hj => h2 j (by omega)⟩
    have e : ((a : Int) + c) / 2 ^ 1 = (((a + c) / 2 : Nat) : Int) := by omega
    simp only [e, toNat_nat, vcs_get]
    have hmid : (a + c) / 2 < V.length := by omega
    have hmlt := h.lt _ hmid
    refine gChk (by omega) (gChk (by omega) ?_)
    rw [one _ _ hmid]
    simp only [Option.bind_some]
    refine gIte (fun h4 => gChk (by omega) (gSome ⟨⟨(a + c) / 2 + 1, c, by simp, rfl, by omega, hc, fun j hj => ?_, h2⟩, by simp only; omega⟩)) fun h4 => gSome ⟨⟨a, (a + c) / 2, rfl, rfl, by omega, by omega, h1, fun j h5 h6 => ?_⟩, by simp only; omega⟩
    · rcases Nat.lt_or_ge j ((a + c) / 2) with q | q
      · have := h.rise j ((a + c) / 2) q (by omega); omega
      · have : j = (a + c) / 2 := by omega
        subst this; omega
    · rcases Nat.lt_or_ge ((a + c) / 2) j with q | q
      · have := h.rise ((a + c) / 2) j q h6; omega
      · have : j = (a + c) / 2 := by omega
        subst this; omega
  · rintro _ ⟨k, rfl, hk, h1, h2⟩
    simp only [toNat_nat, vcs_get]
    refine gChk (by omega) ?_
    rcases Nat.lt_or_ge k V.length with q | q
    · rw [if_pos (by omega), one _ _ q]
      simp only [Option.bind_some]
      refine gSome ⟨k, rfl, ?_⟩
      have hkb := h2 k (Nat.le_refl _) q
      by_cases e : (V.getD k (0, 0)).1 = b
      · exact .inl ⟨decide_eq_true (by omega), q, e⟩
      · refine .inr ⟨decide_eq_false (by omega), fun p hp => ?_⟩
        obtain ⟨j, hj, e2⟩ := vmem_getD.1 hp
        have e3 : (V.getD j (0, 0)).1 = b := by rw [e2]
        rcases Nat.lt_trichotomy j k with c | c | c
        · have := h1 j c; omega
        · subst c; exact e e3
        · have := h.rise k j c hj; omega
    · rw [if_neg (by omega)]
      refine gSome ⟨k, rfl, .inr ⟨rfl, fun p hp => ?_⟩⟩
      obtain ⟨j, hj, e2⟩ := vmem_getD.1 hp
      have e3 : (V.getD j (0, 0)).1 = b := by rw [e2]
      have := h1 j (by omega); omega
  · rintro ⟨_, r2⟩ ⟨k, rfl, hr⟩
    simp only at hr ⊢
    rcases hr with ⟨rfl, hk, e⟩ | ⟨rfl, hn⟩
    · refine gIte (fun q => absurd rfl q) fun _ => gChk (by omega) (gSome (.inl ⟨rfl, ?_⟩))
      simp only [toNat_nat, vcs_get]
      exact vmem_getD.2 ⟨k, hk, Prod.ext e rfl⟩
    · exact gIte (fun _ => gSome (.inr ⟨rfl, hn⟩)) fun q => absurd (by simp) q

/-! ### the number nought at each -/
def zB (B : List Nat) : List (Nat × Int) := B.map fun b => (b, 0)
@[simp] theorem zB_len (B : List Nat) : (zB B).length = B.length := by simp [zB]
theorem zB_get (B : List Nat) (k : Nat) : (zB B).getD k (0, 0) = (B.getD k 0, 0) := by
  unfold zB
  simp only [List.getD_eq_getElem?_getD, List.getElem?_map]
  cases B[k]? <;> rfl
theorem zB_map (B : List Nat) : (zB B).map (·.1) = B := by
  unfold zB
  rw [List.map_map]
  conv => rhs; rw [← List.map_id B]
  exact List.map_congr_left fun a _ => rfl
theorem zB_mem {B : List Nat} {b : Nat} {p : Int} : (b, p) ∈ zB B ↔ b ∈ B ∧ p = 0 := by
  unfold zB
  rw [List.mem_map]
  constructor
  · rintro ⟨a, h1, h2⟩
    cases h2
    exact ⟨h1, rfl⟩
  · rintro ⟨h1, rfl⟩; exact ⟨b, h1, rfl⟩
theorem zVals {m : Nat} {B : List Nat} (h : Mat m B) : Vals m (zB B) := by
  refine ⟨by rw [zB_map]; exact h, fun p hp => ?_⟩
  obtain ⟨_, e⟩ := zB_mem.1 (show (p.1, p.2) ∈ zB B from hp)
  omega
theorem vz_get (B : List Nat) (k : Nat) : (vcs (zB B)).getD k (0, 0) = (((B.getD k 0 : Nat) : Int), (0 : Int)) := by rw [vcs_get, zB_get]
theorem values_of_zero {m : Nat} {B : List Nat} (h : Mat m B) {b : Nat} (hb : b < 2 ^ 60) : Gets (values_of (vcs (zB B)) b) (fun r => (r.2 = true → r.1 = 0) ∧ (r.2 = true ↔ b ∈ B)) := by
  refine (values_of_spec (zVals h) hb).mono fun r hr => ?_
  rcases hr with ⟨h1, h2⟩ | ⟨h1, h2⟩
  · have := zB_mem.1 h2
    exact ⟨fun _ => this.2, fun _ => this.1, fun _ => h1⟩
  · exact ⟨fun q => by rw [h1] at q; simp at q, fun q => by rw [h1] at q; simp at q, fun q => absurd (zB_mem.2 ⟨q, rfl⟩) (h2 0)⟩
theorem values_under_zero {m : Nat} {B : List Nat} (h : Mat m B) : values_under m (vcs (zB B)) = some ((m : Int), cs B, 0) := by
  have hlen := h.len
  refine Gets.eq ?_
  unfold values_under
  refine gBind (R := fun o => o = cs B) (gFor B.length (fun k (x : List Int × Int) => x.2 = (k : Int) ∧ x.1 = cs (B.take k)) (Nat.zero_le _) ⟨rfl, rfl⟩ ?_) ?_
  · rintro k ⟨_, _⟩ hk ⟨rfl, rfl⟩
    simp only [toNat_nat, vcs_len, zB_len, vz_get]
    refine gIte (fun h1 => gChk (by omega) (gChk (by simp; omega) (gSome ⟨by omega, by simp, ?_⟩))) fun h1 => gSome (by rw [List.take_of_length_le (by omega)])
    have hk' : k < B.length := by omega
    show _ = cs (B.take (k + 1))
    rw [List.take_add_one, cs_app, List.getElem?_eq_getElem hk', List.getD_eq_getElem?_getD, List.getElem?_eq_getElem hk']
    rfl
  · rintro _ rfl
    refine gBindE h.check (gIte (fun q => absurd rfl q) fun _ => ?_)
    refine gBind (R := fun z => match z with | .inl _ => True | .inr r => False) (gFor B.length (fun k v => v = (k : Int)) (Nat.zero_le _) rfl ?_) ?_
    · rintro k _ hk rfl
      simp only [toNat_nat, vcs_len, zB_len, vz_get]
      exact gIte (fun h1 => gChk (by omega) (gIte (fun h3 => by omega) fun h3 => gSome ⟨by omega, by simp⟩)) fun h1 => gSome trivial
    · rintro (u | rr) hz
      · exact gSome rfl
      · exact hz.elim
/-- Each element of one basis may be exchanged both ways. -/
theorem Mat.symx {m : Nat} {B : List Nat} (h : Mat m B) {a b x : Nat} (ha : a ∈ B) (hb : b ∈ B) (h1 : a.testBit x = true) (h2 : b.testBit x = false) : ∃ y, b.testBit y = true ∧ a.testBit y = false ∧ dif a (2 ^ x) ||| 2 ^ y ∈ B ∧ dif b (2 ^ y) ||| 2 ^ x ∈ B := by
  have hal := h.lt a ha
  have hbl := h.lt b hb
  have hx := bit_lt hal h1
  have fa := h.full_rk a ha
  have fb := h.full_rk b hb
  have ind : ∀ {s c : Nat}, c ∈ B → Inc s c → rk m B s = cnt m s := fun hc hs => (h.ind_iff (hs.lt (h.lt _ hc))).1 ⟨_, hc, hs⟩
  have rD : ∀ s, s < 2 ^ m → rk m B s ≤ rk m B (2 ^ m - 1) := fun s hs => h.rk_mono fun i hi => by rw [Nat.testBit_two_pow_sub_one]; simp [bit_lt hs hi]
  have hDl : b ||| 2 ^ x < 2 ^ m := or_lt hbl (pow_lt hx)
  have hcD := cnt_add (m := m) hx h2
  obtain ⟨C, c1, c2, c3⟩ := h.dep_circ _ _ (Nat.le_refl _) hDl (by have := rD _ hDl; omega)
  have back : ∀ {i : Nat} (t : Nat), t.testBit i = true → dif t (2 ^ i) ||| 2 ^ i = t := fun {i} t hi => Nat.eq_of_testBit_eq fun j => by
    rw [Nat.testBit_or, testBit_dif, testBit_pow]
    by_cases c : i = j
    · subst c; simp [hi]
    · simp [c]
  have hCx : C.testBit x = true := by
    cases q : C.testBit x
    · have : Inc C b := fun i hi => by
        have := c3 i hi
        rw [Nat.testBit_or, testBit_pow] at this
        by_cases e : x = i
        · subst e; rw [q] at hi; cases hi
        · simpa [e] using this
      have := ind hb this
      have := c2.1
      omega
    · rfl
  have hst : ∀ i, C.testBit i = true → rk m B (dif C (2 ^ i) ||| 2 ^ i) = rk m B (dif C (2 ^ i)) := fun i hi => by
    rw [back C hi, c2.2 i (bit_lt c1 hi) hi]
    have := cnt_dif c1 hi
    have := c2.1
    omega
  have ra := ind ha (inc_dif a (2 ^ x))
  have ca := cnt_dif hal h1
  obtain ⟨y, y1, y2⟩ : ∃ y, (dif C (2 ^ x)).testBit y = true ∧ rk m B (dif a (2 ^ x) ||| 2 ^ y) ≠ rk m B (dif a (2 ^ x)) := by
    rcases Classical.em (∃ y, (dif C (2 ^ x)).testBit y = true ∧ rk m B (dif a (2 ^ x) ||| 2 ^ y) ≠ rk m B (dif a (2 ^ x))) with q | q
    · exact q
    · exfalso
      have e1 := h.rk_all (s := dif a (2 ^ x)) (t := dif C (2 ^ x)) (dif_lt c1) fun i hi => Classical.not_not.1 fun z => q ⟨i, hi, z⟩
      have e2 := h.rk_stay (inc_or_r (dif a (2 ^ x)) (dif C (2 ^ x))) (hst x hCx)
      have e3 : Inc a ((dif a (2 ^ x) ||| dif C (2 ^ x)) ||| 2 ^ x) := fun i hi => by
        have := back a h1
        rw [← this, Nat.testBit_or] at hi
        rw [Nat.testBit_or, Nat.testBit_or]
        cases q1 : (dif a (2 ^ x)).testBit i <;> cases q2 : (2 ^ x).testBit i <;> simp_all
      have e4 := h.rk_mono e3
      have e5 := ind ha (Inc.refl a)
      omega
  rw [testBit_dif, testBit_pow] at y1
  simp only [Bool.and_eq_true, Bool.not_eq_true', decide_eq_false_iff_not] at y1
  obtain ⟨yC, yx⟩ := y1
  have hy := bit_lt c1 yC
  have yb : b.testBit y = true := by
    have := c3 y yC
    rw [Nat.testBit_or, testBit_pow] at this
    simpa [yx] using this
  have ya : a.testBit y = false := by
    cases q : a.testBit y
    · rfl
    · exfalso
      refine y2 ?_
      congr 1
      refine Nat.eq_of_testBit_eq fun j => ?_
      rw [Nat.testBit_or, testBit_dif, testBit_pow, testBit_pow]
      by_cases e : y = j
      · subst e; simp [q, yx]
      · simp [e]
  refine ⟨y, yb, ya, ?_, ?_⟩
  · have k1 := cnt_add (m := m) (s := dif a (2 ^ x)) hy (by rw [testBit_dif, ya]; rfl)
    have k2 := h.rk_mono (inc_or_l (dif a (2 ^ x)) (2 ^ y))
    have k3 := h.rk_size (dif a (2 ^ x) ||| 2 ^ y)
    exact h.basis_of (or_lt (dif_lt hal) (pow_lt hy)) (by omega) (by omega)
  · have k1 := cnt_add (m := m) (s := dif b (2 ^ y)) hx (by rw [testBit_dif, h2]; rfl)
    have k2 := cnt_dif hbl yb
    have k3 : Inc (dif C (2 ^ y)) (dif b (2 ^ y) ||| 2 ^ x) := fun i hi => by
      rw [testBit_dif] at hi
      simp only [Bool.and_eq_true, Bool.not_eq_true'] at hi
      have := c3 i hi.1
      rw [Nat.testBit_or] at this ⊢
      rw [testBit_dif, hi.2]
      simpa using this
    have k4 := h.rk_stay k3 (hst y yC)
    have k5 : Inc b ((dif b (2 ^ y) ||| 2 ^ x) ||| 2 ^ y) := fun i hi => by
      rw [Nat.testBit_or, Nat.testBit_or, testBit_dif, hi]
      cases (2 ^ y).testBit i <;> simp
    have k6 := h.rk_mono k5
    have k7 := ind hb (Inc.refl b)
    have k8 := h.rk_size (dif b (2 ^ y) ||| 2 ^ x)
    exact h.basis_of (or_lt (dif_lt hbl) (pow_lt hx)) (by omega) (by omega)
theorem size_powV {i : Nat} (h : i < 8) : size (2 ^ i) = 1 := by
  have := cnt_add (m := 8) (s := 0) h (by simp)
  rw [Nat.zero_or, cnt_zero] at this
  exact this
theorem values_Check_zero {m : Nat} {B : List Nat} (h : Mat m B) : values_Check m (vcs (zB B)) = some 0 := by
  have hlen := h.len
  have h8 := h.m8
  have h256 := pow_le8 h8
  refine Gets.eq ?_
  unfold values_Check
  refine gBindE (values_under_zero h) (gIte (fun q => absurd rfl q) fun _ => ?_)
  refine gBind (R := fun z => match z with | .inl _ => True | .inr r => False) (gFor B.length (fun k v => v = (k : Int)) (Nat.zero_le _) rfl ?_) ?_
  rotate_left
  · rintro (u | rr) hz
    · exact gSome rfl
    · exact hz.elim
  rintro i _ hi rfl
  simp only [toNat_nat, vcs_len, zB_len, vz_get]
  refine gIte (fun h1 => gChk (by omega) ?_) fun h1 => gSome trivial
  have hi' : i < B.length := by omega
  have haB : B.getD i 0 ∈ B := mem_getD.2 ⟨i, hi', rfl⟩
  have ha := h.lt _ haB
  generalize B.getD i 0 = a at haB ha
  refine gBind (R := fun z => match z with | .inl _ => True | .inr r => False) (gFor B.length (fun k v => v = (k : Int)) (Nat.zero_le _) rfl ?_) ?_
  rotate_left
  · rintro (u | rr) hz
    · exact gSome ⟨hi', by simp⟩
    · exact hz.elim
  rintro j _ hj rfl
  simp only [toNat_nat, vcs_len, zB_len, vz_get]
  refine gIte (fun h1 => gChk (by omega) ?_) fun h1 => gSome trivial
  have hj' : j < B.length := by omega
  have hbB : B.getD j 0 ∈ B := mem_getD.2 ⟨j, hj', rfl⟩
  have hb := h.lt _ hbB
  generalize B.getD j 0 = b at hbB hb
  simp only [dif_nat]
  have hda : dif a b < 256 := dif_lt (n := 8) (by omega)
  have hdb : dif b a < 256 := dif_lt (n := 8) (by omega)
  refine gBind (R := fun z => match z with | .inl _ => True | .inr r => False) (gLoop (fun o => ∃ t : Nat, o = (t : Int) ∧ t < 256 ∧ Inc t (dif a b)) (fun o => o.toNat) (s0 := ((dif a b : Nat) : Int)) ⟨_, rfl, hda, Inc.refl _⟩ ?_) ?_
  rotate_left
  · rintro (u | rr) hz
    · exact gSome ⟨hj', by simp⟩
    · exact hz.elim
  rintro _ ⟨t, rfl, ht, hta⟩
  refine gIte (fun h1 => ?_) fun h1 => gSome trivial
  have hlow := low_spec ht (show t ≠ 0 by omega)
  have hbit := hta _ hlow.bit
  rw [testBit_dif] at hbit
  simp only [Bool.and_eq_true, Bool.not_eq_true'] at hbit
  have hless := hlow.less
  have hx8 := bit_lt (m := 8) ht hlow.bit
  obtain ⟨y0, z1, z2, z3, z4⟩ := h.symx haB hbB hbit.1 hbit.2
  refine gChk (by omega) ?_
  simp only [hlow.neg, hlow.rest, dif_nat]
  refine gBind (R := fun r => r = true)
    (gLoop (fun o => ∃ u : Nat, o.2 = (u : Int) ∧ u < 256 ∧ (o.1 = false → u.testBit y0 = true)) (fun o => o.2.toNat) (s0 := (false, ((dif b a : Nat) : Int)))
      ⟨_, rfl, hdb, fun _ => by rw [testBit_dif, z1, z2]; rfl⟩ ?_) ?_
  · rintro ⟨ok, _⟩ ⟨u, rfl, hu, hok⟩
    simp only at hok ⊢
    refine gIte (fun h2 => ?_) fun h2 => gSome ?_
    rotate_left
    · cases ok
      · have e0 : u = 0 := by
          rcases Nat.eq_zero_or_pos u with c | c
          · exact c
          · exact absurd ⟨by omega, by simp⟩ h2
        have := hok rfl
        rw [e0] at this; simp at this
      · rfl
    have hlow2 := low_spec hu (show u ≠ 0 by omega)
    have hless2 := hlow2.less
    have hy8 := bit_lt (m := 8) hu hlow2.bit
    refine gChk (by omega) ?_
    simp only [hlow2.neg, hlow2.rest, dif_nat, or_nat]
    have k1 : dif a (2 ^ lo1 t) ||| 2 ^ lo1 u < 2 ^ 60 := or_lt (dif_lt (by omega)) (pow_lt (by omega))
    have k2 : dif b (2 ^ lo1 u) ||| 2 ^ lo1 t < 2 ^ 60 := or_lt (dif_lt (by omega)) (pow_lt (by omega))
    refine gBind (values_of_zero h k1) fun y1 hy1 => gBind (values_of_zero h k2) fun y2 hy2 => ?_
    refine gChk ⟨fun _ => by omega, fun c => by have e1 := hy1.1 c.1; have e2 := hy2.1 c.2; omega⟩ (gChk (by omega) (gSome ⟨⟨_, rfl, by omega, fun h3 => ?_⟩, by simp only [toNat_nat]; omega⟩))
    have hne : lo1 u ≠ y0 := fun e => by
      subst e
      have c1 := hy1.2.2 z3
      have c2 := hy2.2.2 z4
      refine (of_decide_eq_false h3) ⟨⟨c1, c2⟩, ?_⟩
      have e1 := hy1.1 c1
      have e2 := hy2.1 c2
      omega
    have hub := hok (by
      cases ok
      · rfl
      · exact absurd rfl h2.2)
    rw [testBit_dif, hub, testBit_pow, decide_eq_false hne]; rfl
  · rintro _ rfl
    exact gIte (fun q => absurd rfl q) fun _ => gChk (by omega) (gSome ⟨⟨_, rfl, by omega, (inc_dif _ _).trans hta⟩, by simp only [toNat_nat]; omega⟩)
end Go.SH
