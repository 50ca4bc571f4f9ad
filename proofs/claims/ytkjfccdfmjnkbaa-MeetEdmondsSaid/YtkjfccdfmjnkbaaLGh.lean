/-
  FRANK: weights split in two, so that one set is heaviest in both ways; KROGDAHL: what one more element brings grows less. Conditions: two matroids of at most eight elements.
-/
import Derived.Test.YtkjfccdfmjnkbaaLGf
set_option linter.unusedSimpArgs false
set_option linter.unusedVariables false
namespace Go.SH
open Go Go.AX

/-- Each element of one basis may be exchanged both ways. -/
theorem Mat.symx {m : Nat} {B : List Nat} (h : Mat m B) {a b x : Nat} (ha : a ∈ B) (hb : b ∈ B) (h1 : a.testBit x = true) (h2 : b.testBit x = false) : ∃ y, b.testBit y = true ∧ a.testBit y = false ∧ dif a (2 ^ x) ||| 2 ^ y ∈ B ∧ dif b (2 ^ y) ||| 2 ^ x ∈ B := by
  have hal := h.lt a ha
  have hbl := h.lt b hb
  have hx := bit_lt hal h1
  have fa := h.full_rk a ha
  have fb := h.full_rk b hb
  have ind : ∀ {s c : Nat}, c ∈ B → Inc s c → rk m B s = cnt m s := fun hc hs => (h.ind_iff (hs.lt (h.lt _ hc))).1 ⟨_, hc, hs⟩
  have rD : ∀ s, s < 2 ^ m → rk m B s ≤ rk m B (2 ^ m - 1) := fun s hs => h.rk_mono fun i hi => by rw [Nat.testBit_two_pow_sub_one]; simp [bit_lt hs hi]
  have hDl : b ||| 2 ^ x < 2 ^ m := or_lt hbl (pow_lt hx)
  have hcD := cnt_add (m := m) hx h2
  obtain ⟨C, c1, c2, c3⟩ := h.dep_circ _ _ (Nat.le_refl _) hDl (by have := rD _ hDl; omega)
  have back : ∀ {i : Nat} (t : Nat), t.testBit i = true → dif t (2 ^ i) ||| 2 ^ i = t := fun {i} t hi => Nat.eq_of_testBit_eq fun j => by
    rw [Nat.testBit_or, testBit_dif, testBit_pow]
    by_cases c : i = j
    · subst c; simp [hi]
    · simp [c]
  have hCx : C.testBit x = true := by
    cases q : C.testBit x
    · have : Inc C b := fun i hi => by
        have := c3 i hi
        rw [Nat.testBit_or, testBit_pow] at this
        by_cases e : x = i
        · subst e; rw [q] at hi; cases hi
        · simpa [e] using this
      have := ind hb this
      have := c2.1
      omega
    · rfl
  have hst : ∀ i, C.testBit i = true → rk m B (dif C (2 ^ i) ||| 2 ^ i) = rk m B (dif C (2 ^ i)) := fun i hi => by
    rw [back C hi, c2.2 i (bit_lt c1 hi) hi]
    have := cnt_dif c1 hi
    have := c2.1
    omega
  have ra := ind ha (inc_dif a (2 ^ x))
  have ca := cnt_dif hal h1
  obtain ⟨y, y1, y2⟩ : ∃ y, (dif C (2 ^ x)).testBit y = true ∧ rk m B (dif a (2 ^ x) ||| 2 ^ y) ≠ rk m B (dif a (2 ^ x)) := by
    rcases Classical.em (∃ y, (dif C (2 ^ x)).testBit y = true ∧ rk m B (dif a (2 ^ x) ||| 2 ^ y) ≠ rk m B (dif a (2 ^ x))) with q | q
    · exact q
    · exfalso
      have e1 := h.rk_all (s := dif a (2 ^ x)) (t := dif C (2 ^ x)) (dif_lt c1) fun i hi => Classical.not_not.1 fun z => q ⟨i, hi, z⟩
      have e2 := h.rk_stay (inc_or_r (dif a (2 ^ x)) (dif C (2 ^ x))) (hst x hCx)
      have e3 : Inc a ((dif a (2 ^ x) ||| dif C (2 ^ x)) ||| 2 ^ x) := fun i hi => by
        have := back a h1
        rw [← this, Nat.testBit_or] at hi
        rw [Nat.testBit_or, Nat.testBit_or]
        cases q1 : (dif a (2 ^ x)).testBit i <;> cases q2 : (2 ^ x).testBit i <;> simp_all
      have e4 := h.rk_mono e3
      have e5 := ind ha (Inc.refl a)
      omega
  rw [testBit_dif, testBit_pow] at y1
  simp only [Bool.and_eq_true, Bool.not_eq_true', decide_eq_false_iff_not] at y1
  obtain ⟨yC, yx⟩ := y1
  have hy := bit_lt c1 yC
  have yb : b.testBit y = true := by
    have := c3 y yC
    rw [Nat.testBit_or, testBit_pow] at this
    simpa [yx] using this
  have ya : a.testBit y = false := by
    cases q : a.testBit y
    · rfl
    · exfalso
      refine y2 ?_
      congr 1
      refine Nat.eq_of_testBit_eq fun j => ?_
      rw [Nat.testBit_or, testBit_dif, testBit_pow, testBit_pow]
      by_cases e : y = j
      · subst e; simp [q, yx]
      · simp [e]
  refine ⟨y, yb, ya, ?_, ?_⟩
  · have k1 := cnt_add (m := m) (s := dif a (2 ^ x)) hy (by rw [testBit_dif, ya]; rfl)
    have k2 := h.rk_mono (inc_or_l (dif a (2 ^ x)) (2 ^ y))
    have k3 := h.rk_size (dif a (2 ^ x) ||| 2 ^ y)
    exact h.basis_of (or_lt (dif_lt hal) (pow_lt hy)) (by omega) (by omega)
  · have k1 := cnt_add (m := m) (s := dif b (2 ^ y)) hx (by rw [testBit_dif, h2]; rfl)
    have k2 := cnt_dif hbl yb
    have k3 : Inc (dif C (2 ^ y)) (dif b (2 ^ y) ||| 2 ^ x) := fun i hi => by
      rw [testBit_dif] at hi
      simp only [Bool.and_eq_true, Bool.not_eq_true'] at hi
      have := c3 i hi.1
      rw [Nat.testBit_or] at this ⊢
      rw [testBit_dif, hi.2]
      simpa using this
    have k4 := h.rk_stay k3 (hst y yC)
    have k5 : Inc b ((dif b (2 ^ y) ||| 2 ^ x) ||| 2 ^ y) := fun i hi => by
      rw [Nat.testBit_or, Nat.testBit_or, testBit_dif, hi]
      cases (2 ^ y).testBit i <;> simp
    have k6 := h.rk_mono k5
    have k7 := ind hb (Inc.refl b)
    have k8 := h.rk_size (dif b (2 ^ y) ||| 2 ^ x)
    exact h.basis_of (or_lt (dif_lt hbl) (pow_lt hx)) (by omega) (by omega)

/-! ### the free sets of one size -/
def szL (m : Nat) (B : List Nat) (k : Nat) : List Nat := (List.range (2 ^ m)).filter fun s => decide (rk m B s = cnt m s ∧ cnt m s = k)
theorem mem_szL {m k s : Nat} {B : List Nat} : s ∈ szL m B k ↔ s < 2 ^ m ∧ rk m B s = cnt m s ∧ cnt m s = k := by simp [szL]
theorem Mat.szM {m k : Nat} {B : List Nat} (h : Mat m B) (hne : ∃ s, s ∈ szL m B k) : Mat m (szL m B k) where
  toFam := filter_fam h.m8 _
  ne := fun q => by obtain ⟨s, hs⟩ := hne; rw [q] at hs; cases hs
  eqc := fun a ha b hb => by rw [(mem_szL.1 ha).2.2, (mem_szL.1 hb).2.2]
  ex := fun a ha b hb x h1 h2 => by
    obtain ⟨a1, a2, a3⟩ := mem_szL.1 ha
    obtain ⟨b1, b2, b3⟩ := mem_szL.1 hb
    have hI : Ind B (dif a (2 ^ x)) := ((h.ind_iff a1).2 a2).mono (inc_dif _ _)
    have hc := cnt_dif a1 h1
    obtain ⟨y, y1, y2, y3⟩ := h.aug hI ((h.ind_iff b1).2 b2) (by omega)
    have hxy : x ≠ y := fun q => by subst q; rw [h2] at y1; cases y1
    have y2' : a.testBit y = false := by rw [testBit_dif, testBit_pow] at y2; simpa [hxy] using y2
    have hy := bit_lt b1 y1
    have hl : dif a (2 ^ x) ||| 2 ^ y < 2 ^ m := or_lt (dif_lt a1) (pow_lt hy)
    have hc2 : cnt m (dif a (2 ^ x) ||| 2 ^ y) = cnt m (dif a (2 ^ x)) + 1 := cnt_add hy y2
    exact ⟨y, y1, y2', mem_szL.2 ⟨hl, (h.ind_iff hl).1 y3, by omega⟩⟩
/-! ### the heaviest -/
def topL (m : Nat) (B : List Nat) (v : Nat → Int) (M : Int) : List Nat := B.filter fun s => decide (wsum m v s = M)
theorem mem_topL {m s : Nat} {B : List Nat} {v : Nat → Int} {M : Int} : s ∈ topL m B v M ↔ s ∈ B ∧ wsum m v s = M := by simp [topL]
theorem wsum_swap {m : Nat} {v : Nat → Int} {a x y : Nat} (hx : x < m) (hy : y < m) (h1 : a.testBit x = true) (h2 : a.testBit y = false) : wsum m v (dif a (2 ^ x) ||| 2 ^ y) = wsum m v a - v x + v y := by
  have e1 : (dif a (2 ^ x)).testBit y = false := by rw [testBit_dif, h2]; rfl
  have e2 : (dif a (2 ^ x)).testBit x = false := by rw [testBit_dif, testBit_pow]; simp
  have k1 := wsum_add (g := v) hy e1
  have k2 := wsum_add (g := v) hx e2
  rw [dif_or h1] at k2
  omega
theorem fam_pick {m : Nat} {L : List Nat} (h : Fam m L) (p : Nat → Bool) : Fam m (L.filter p) := by
  have hp : (L.filter p).Pairwise (· < ·) := by
    refine List.Pairwise.filter _ ?_
    rw [List.pairwise_iff_getElem]
    intro i j hi hj hij
    have := h.rise i j hij hj
    rw [List.getD_eq_getElem?_getD, List.getD_eq_getElem?_getD, List.getElem?_eq_getElem hi, List.getElem?_eq_getElem hj] at this
    exact this
  refine ⟨h.m8, fun s hs => h.lt s (List.mem_filter.1 hs).1, fun i j hij hj => ?_⟩
  have hi := Nat.lt_trans hij hj
  have := List.pairwise_iff_getElem.1 hp i j hi hj hij
  rw [List.getD_eq_getElem?_getD, List.getD_eq_getElem?_getD, List.getElem?_eq_getElem hj, List.getElem?_eq_getElem hi]
  exact this
section
variable {m : Nat} {B : List Nat} (h : Mat m B) {v : Nat → Int} {M : Int}
include h
theorem Mat.topM (hM : ∀ s, s ∈ B → wsum m v s ≤ M) (hne : ∃ s, s ∈ B ∧ wsum m v s = M) : Mat m (topL m B v M) where
  toFam := fam_pick h.toFam _
  ne := fun q => by
    obtain ⟨s, hs⟩ := hne
    have := mem_topL.2 hs
    rw [q] at this; cases this
  eqc := fun a ha b hb => h.eqc a (mem_topL.1 ha).1 b (mem_topL.1 hb).1
  ex := fun a ha b hb x h1 h2 => by
    obtain ⟨a1, a2⟩ := mem_topL.1 ha
    obtain ⟨b1, b2⟩ := mem_topL.1 hb
    obtain ⟨y, y1, y2, y3, y4⟩ := h.symx a1 b1 h1 h2
    have hx := bit_lt (h.lt a a1) h1
    have hy := bit_lt (h.lt b b1) y1
    have k1 := wsum_swap (v := v) hx hy h1 y2
    have k2 := wsum_swap (v := v) hy hx y1 h2
    have k3 := hM _ y3
    have k4 := hM _ y4
    exact ⟨y, y1, y2, mem_topL.2 ⟨y3, by omega⟩⟩
/-- What is not heaviest can be bettered by one exchange. -/
theorem Mat.better (hM : ∀ s, s ∈ B → wsum m v s ≤ M) {J : Nat} (hJ : J ∈ B) (hlt : wsum m v J < M) : ∀ (n I : Nat), I ∈ B → wsum m v I = M → cnt m (dif J I) ≤ n → ∃ x y, x < m ∧ y < m ∧ J.testBit x = true ∧ J.testBit y = false ∧ dif J (2 ^ x) ||| 2 ^ y ∈ B ∧ v x < v y := by
  intro n
  induction n with
  | zero =>
    intro I hI hw hc
    exfalso
    have hin : Inc J I := fun i hi => by
      cases q : I.testBit i with
      | true => rfl
      | false =>
        have := cnt_pos (m := m) (c := dif J I) (dif_lt (h.lt J hJ)) (i := i) (by rw [testBit_dif, hi, q]; rfl)
        omega
    have := inc_eq_of_cnt hin (h.lt I hI) (by have := h.eqc I hI J hJ; omega)
    subst this
    omega
  | succ n ih =>
    intro I hI hw hc
    rcases Classical.em (Inc J I) with c | c
    · have := inc_eq_of_cnt c (h.lt I hI) (by have := h.eqc I hI J hJ; omega)
      subst this
      omega
    · obtain ⟨x, x1, x2⟩ := not_inc c
      obtain ⟨y, y1, y2, y3, y4⟩ := h.symx hJ hI x1 x2
      have hx := bit_lt (h.lt J hJ) x1
      have hy := bit_lt (h.lt I hI) y1
      rcases Int.lt_or_le (v x) (v y) with d | d
      · exact ⟨x, y, hx, hy, x1, y2, y3, d⟩
      · have k2 := wsum_swap (v := v) hy hx y1 x2
        have k4 := hM _ y4
        refine ih _ y4 (by omega) ?_
        have hdl : dif J I < 2 ^ m := dif_lt (h.lt J hJ)
        have := cnt_dif (m := m) (c := dif J I) hdl (i := x) (by rw [testBit_dif, x1, x2]; rfl)
        have := cnt_le_of_inc (m := m) (a := dif J (dif I (2 ^ y) ||| 2 ^ x)) (b := dif (dif J I) (2 ^ x)) fun i hi => by
          rw [testBit_dif, Nat.testBit_or, testBit_dif, testBit_pow, testBit_pow] at hi
          rw [testBit_dif, testBit_dif, testBit_pow]
          rcases Classical.em (y = i) with z | z
          · subst z; rw [y2] at hi; cases hi
          · revert hi
            cases J.testBit i <;> cases I.testBit i <;> cases decide (x = i) <;> simp [z]
        omega
/-- No set is more than the heaviest and what these have of X. -/
theorem Mat.lift (hM : ∀ s, s ∈ B → wsum m v s ≤ M) (hne : ∃ s, s ∈ B ∧ wsum m v s = M) (X : Nat) : ∀ (n J : Nat), J ∈ B → (M - wsum m v J).toNat ≤ n → wsum m v J + cnt m (J &&& X) ≤ M + rk m (topL m B v M) X := by
  intro n
  induction n with
  | zero =>
    intro J hJ hn
    have := hM J hJ
    have hJt := mem_topL.2 ⟨hJ, (by omega : wsum m v J = M)⟩
    have := le_rk (m := m) (s := X) hJt
    rw [Nat.and_comm] at this
    omega
  | succ n ih =>
    intro J hJ hn
    have hle := hM J hJ
    rcases Int.lt_or_le (wsum m v J) M with c | c
    · obtain ⟨I, i1, i2⟩ := hne
      obtain ⟨x, y, hx, hy, x1, y1, hB, hv⟩ := h.better hM hJ c _ I i1 i2 (Nat.le_refl _)
      have k1 := wsum_swap (v := v) hx hy x1 y1
      have k2 := ih _ hB (by omega)
      have k3 : cnt m (J &&& X) ≤ cnt m ((dif J (2 ^ x) ||| 2 ^ y) &&& X) + 1 := by
        have hJl := h.lt J hJ
        have a1 := cnt_le_of_inc (m := m) (a := J &&& X) (b := (dif J (2 ^ x) &&& X) ||| 2 ^ x) fun i hi => by
          rw [Nat.testBit_and, Bool.and_eq_true] at hi
          rw [Nat.testBit_or, Nat.testBit_and, testBit_dif, testBit_pow, hi.1, hi.2]
          cases decide (x = i) <;> rfl
        have a2 := cnt_or_and m (dif J (2 ^ x) &&& X) (2 ^ x)
        have a3 : cnt m (2 ^ x) = 1 := by
          have := cnt_add (m := m) (s := 0) hx (by simp)
          rw [cnt_zero, Nat.zero_or] at this; exact this
        have a4 := cnt_le_of_inc (m := m) (a := dif J (2 ^ x) &&& X) (b := (dif J (2 ^ x) ||| 2 ^ y) &&& X) fun i hi => by
          rw [Nat.testBit_and, Bool.and_eq_true] at hi
          rw [Nat.testBit_and, Nat.testBit_or, hi.1, hi.2]; rfl
        omega
      omega
    · have hJt := mem_topL.2 ⟨hJ, (by omega : wsum m v J = M)⟩
      have := le_rk (m := m) (s := X) hJt
      rw [Nat.and_comm] at this
      omega
end
theorem max_ex {m : Nat} {B : List Nat} (v : Nat → Int) : ∀ L : List Nat, L ≠ [] → ∃ M, (∀ s, s ∈ L → wsum m v s ≤ M) ∧ ∃ s, s ∈ L ∧ wsum m v s = M
  | [], h => absurd rfl h
  | [a], _ => ⟨wsum m v a, fun s hs => by rw [List.mem_singleton.1 hs]; exact Int.le_refl _, a, List.mem_singleton.2 rfl, rfl⟩
  | a :: b :: L, _ => by
    obtain ⟨M, h1, s, h2, h3⟩ := max_ex (m := m) (B := B) v (b :: L) (by simp)
    rcases Int.lt_or_le M (wsum m v a) with c | c
    · exact ⟨wsum m v a, fun s hs => by
        rcases List.mem_cons.1 hs with rfl | hs
        · exact Int.le_refl _
        · have := h1 s hs; omega, a, List.mem_cons_self .., rfl⟩
    · exact ⟨M, fun s hs => by
        rcases List.mem_cons.1 hs with rfl | hs
        · exact c
        · exact h1 s hs, s, List.mem_cons_of_mem _ h2, h3⟩
def chi (X : Nat) (i : Nat) : Int := if X.testBit i = true then 1 else 0
theorem wsum_plus (m : Nat) (v u : Nat → Int) (s : Nat) : wsum m (fun i => v i + u i) s = wsum m v s + wsum m u s := by
  unfold wsum
  rw [← sumN_add]
  exact sumN_congr fun i _ => by split <;> rfl
theorem wsum_minus (m : Nat) (v u : Nat → Int) (s : Nat) : wsum m (fun i => v i - u i) s = wsum m v s - wsum m u s := by
  have := wsum_plus m (fun i => v i - u i) u s
  have e : wsum m (fun i => v i - u i + u i) s = wsum m v s := by
    unfold wsum
    exact sumN_congr fun i _ => by dsimp only; split <;> omega
  rw [e] at this
  omega
theorem wsum_chi (X s : Nat) : ∀ m, wsum m (chi X) s = ((cnt m (s &&& X) : Nat) : Int)
  | 0 => rfl
  | m + 1 => by
    have := wsum_chi X s m
    unfold wsum at this ⊢
    simp only [sumN, cnt]
    rw [this]
    unfold chi
    rw [Nat.testBit_and]
    cases s.testBit m <;> cases X.testBit m <;> simp
/-- FRANK: the weights split. -/
theorem split_ex {m : Nat} {T T' : List Nat} (hT : Mat m T) (hT' : Mat m T') {k I0 : Nat} (hk : ∀ s, s ∈ T → cnt m s = k) (hk' : ∀ s, s ∈ T' → cnt m s = k) (h0 : I0 ∈ T) (h0' : I0 ∈ T') :
    ∀ (n : Nat) (v u : Nat → Int) (M M' : Int), (∀ s, s ∈ T → wsum m v s ≤ M) → (∃ s, s ∈ T ∧ wsum m v s = M) → (∀ s, s ∈ T' → wsum m u s ≤ M') → (∃ s, s ∈ T' ∧ wsum m u s = M') → (M + M' - (wsum m v I0 + wsum m u I0)).toNat ≤ n →
    ∃ (v' u' : Nat → Int) (N N' : Int) (I : Nat), (∀ i, v' i + u' i = v i + u i) ∧ (∀ s, s ∈ T → wsum m v' s ≤ N) ∧ (∀ s, s ∈ T' → wsum m u' s ≤ N') ∧ I ∈ T ∧ I ∈ T' ∧ wsum m v' I = N ∧ wsum m u' I = N' := by
  intro n
  induction n with
  | zero =>
    intro v u M M' h1 _ h2 _ hn
    have a1 := h1 I0 h0
    have a2 := h2 I0 h0'
    exact ⟨v, u, M, M', I0, fun _ => rfl, h1, h2, h0, h0', by omega, by omega⟩
  | succ n ih =>
    intro v u M M' h1 e1 h2 e2 hn
    have hA := hT.topM h1 e1
    have hB := hT'.topM h2 e2
    obtain ⟨S, U, _, S1, U1, S2, S3, U2, _, _⟩ := Common_ok hA hB
    obtain ⟨a0, ha0⟩ := hA.exists_basis
    obtain ⟨b0, hb0⟩ := hB.exists_basis
    have ka0 := hk a0 (mem_topL.1 ha0).1
    have kb0 := hk' b0 (mem_topL.1 hb0).1
    have hSk : cnt m S ≤ k := by
      obtain ⟨b, hb, hi⟩ := (hA.ind_iff S1).2 S2
      have := cnt_le_of_inc (m := m) hi
      have := hk b (mem_topL.1 hb).1
      omega
    rcases Nat.lt_or_ge (cnt m S) k with c | c
    · -- shift the weights
      have l1 := fun J hJ => hT.lift h1 e1 U _ J hJ (Nat.le_refl _)
      have l2 := fun J hJ => hT'.lift h2 e2 (cpl m U) _ J hJ (Nat.le_refl _)
      have w1 : ∀ s, wsum m (fun i => v i + chi U i) s = wsum m v s + cnt m (s &&& U) := fun s => by rw [wsum_plus, wsum_chi]
      have w2 : ∀ s, wsum m (fun i => u i - chi U i) s = wsum m u s - cnt m (s &&& U) := fun s => by rw [wsum_minus, wsum_chi]
      obtain ⟨N, n1, n2⟩ := max_ex (m := m) (B := T) (fun i => v i + chi U i) T hT.ne
      obtain ⟨N', n1', n2'⟩ := max_ex (m := m) (B := T') (fun i => u i - chi U i) T' hT'.ne
      have hN : N ≤ M + rk m (topL m T v M) U := by
        obtain ⟨s, s1, s2⟩ := n2
        rw [← s2, w1]
        exact l1 s s1
      have hN' : N' ≤ M' + rk m (topL m T' u M') (cpl m U) - k := by
        obtain ⟨s, s1, s2⟩ := n2'
        have q := l2 s s1
        have q1 := cnt_split m s U
        have q2 : s &&& cpl m U = dif s U := and_cpl (hT'.lt s s1)
        have q3 := hk' s s1
        rw [q2] at q
        rw [← s2, w2]
        omega
      obtain ⟨v', u', P, P', I, p1, p2, p3, p4, p5, p6, p7⟩ := ih (fun i => v i + chi U i) (fun i => u i - chi U i) N N' n1 n2 n1' n2' (by
        rw [w1, w2]
        have a1 := h1 I0 h0
        have a2 := h2 I0 h0'
        omega)
      exact ⟨v', u', P, P', I, fun i => by rw [p1]; omega, p2, p3, p4, p5, p6, p7⟩
    · have sA : S ∈ topL m T v M := hA.ind_big ((hA.ind_iff S1).2 S2) ha0 (by omega)
      have sB : S ∈ topL m T' u M' := hB.ind_big ((hB.ind_iff S1).2 S3) hb0 (by omega)
      exact ⟨v, u, M, M', S, fun _ => rfl, h1, h2, (mem_topL.1 sA).1, (mem_topL.1 sB).1, (mem_topL.1 sA).2, (mem_topL.1 sB).2⟩
/-- One more and one less, of one matroid. -/
theorem Mat.between {m k : Nat} {B : List Nat} (h : Mat m B) {v : Nat → Int} {M : Int} (hM : ∀ s, s ∈ szL m B (k + 1) → wsum m v s ≤ M) {t0 t2 : Nat} (h0 : t0 ∈ szL m B k) (h2 : t2 ∈ szL m B (k + 2)) : wsum m v t0 + wsum m v t2 ≤ 2 * M := by
  obtain ⟨a1, a2, a3⟩ := mem_szL.1 h0
  obtain ⟨b1, b2, b3⟩ := mem_szL.1 h2
  obtain ⟨e, e1, e2, e3⟩ := h.aug ((h.ind_iff a1).2 a2) ((h.ind_iff b1).2 b2) (by omega)
  have he := bit_lt b1 e1
  have l1 : t0 ||| 2 ^ e < 2 ^ m := or_lt a1 (pow_lt he)
  have l2 : dif t2 (2 ^ e) < 2 ^ m := dif_lt b1
  have c1 : cnt m (t0 ||| 2 ^ e) = cnt m t0 + 1 := cnt_add he e2
  have c2 := cnt_dif b1 e1
  have k1 := hM _ (mem_szL.2 ⟨l1, (h.ind_iff l1).1 e3, by omega⟩)
  have k2 := hM _ (mem_szL.2 ⟨l2, (h.ind_iff l2).1 (((h.ind_iff b1).2 b2).mono (inc_dif _ _)), by omega⟩)
  have w1 := wsum_add (g := v) he e2
  have w2 := wsum_add (g := v) (s := dif t2 (2 ^ e)) he (by rw [testBit_dif, testBit_pow]; simp)
  rw [dif_or e1] at w2
  omega
/-- KROGDAHL, FRANK: the heaviest of each size have no hollow. -/
theorem concave {m k : Nat} {A B : List Nat} (hA : Mat m A) (hB : Mat m B) {w : Nat → Int} {t0 t1 t2 : Nat} (l0 : t0 < 2 ^ m) (l1 : t1 < 2 ^ m) (l2 : t2 < 2 ^ m) (h0 : Both m A B k t0) (h1 : Both m A B (k + 1) t1) (h2 : Both m A B (k + 2) t2)
    (hmax : ∀ t, t < 2 ^ m → Both m A B (k + 1) t → wsum m w t ≤ wsum m w t1) : wsum m w t0 + wsum m w t2 ≤ 2 * wsum m w t1 := by
  have tA : ∀ {j t}, t < 2 ^ m → Both m A B j t → t ∈ szL m A j ∧ t ∈ szL m B j := fun {j t} hl hb => by
    obtain ⟨q1, q2, q3⟩ := hb
    exact ⟨mem_szL.2 ⟨hl, by omega, q1⟩, mem_szL.2 ⟨hl, by omega, q1⟩⟩
  obtain ⟨a1, b1⟩ := tA l1 h1
  have hT := hA.szM ⟨t1, a1⟩
  have hT' := hB.szM ⟨t1, b1⟩
  obtain ⟨M, m1, m2⟩ := max_ex (m := m) (B := A) w (szL m A (k + 1)) hT.ne
  have z : ∀ s, wsum m (fun _ => (0 : Int)) s = 0 := fun s => by
    unfold wsum
    rw [sumN_congr (h := fun _ => (0 : Int)) fun i _ => by split <;> rfl, sumN_zero]
  obtain ⟨v, u, N, N', I, p1, p2, p3, p4, p5, p6, p7⟩ := split_ex hT hT' (k := k + 1) (I0 := t1) (fun s hs => (mem_szL.1 hs).2.2) (fun s hs => (mem_szL.1 hs).2.2) a1 b1 _ w (fun _ => 0) M 0 m1 m2 (fun s _ => by rw [z]; exact Int.le_refl _) ⟨t1, b1, z t1⟩ (Nat.le_refl _)
  have hw : ∀ s, wsum m v s + wsum m u s = wsum m w s := fun s => by
    rw [← wsum_plus]
    unfold wsum
    exact sumN_congr fun i _ => by
      have := p1 i
      dsimp only at this ⊢
      split <;> omega
  have q1 := hA.between p2 (tA l0 h0).1 (tA l2 h2).1
  have q2 := hB.between p3 (tA l0 h0).2 (tA l2 h2).2
  obtain ⟨i1, i2, i3⟩ := mem_szL.1 p4
  obtain ⟨j1, j2, j3⟩ := mem_szL.1 p5
  have q3 := hmax I i1 ⟨i3, by omega, by omega⟩
  have e0 := hw t0
  have e2 := hw t2
  have eI := hw I
  omega
end Go.SH
