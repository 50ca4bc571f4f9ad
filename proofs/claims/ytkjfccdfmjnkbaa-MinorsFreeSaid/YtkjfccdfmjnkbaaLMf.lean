/-
  A free element goes away again, and contracted truncates; a circuit that is a hyperplane, relaxed: matroids. The law MinorsFree. Conditions: matroids of at most eight elements.
-/
import Derived.Test.YtkjfccdfmjnkbaaLUn
import Derived.Test.YtkjfccdfmjnkbaaSkMinorsFree
set_option linter.unusedSimpArgs false
set_option linter.unusedVariables false
namespace Go.SH
open Go Go.AX

theorem off_lt {m s : Nat} (hs : s < 2 ^ (m + 1)) : dif s (2 ^ m) < 2 ^ m := lt_of_bits fun i hi => by
  rw [testBit_dif, testBit_pow]
  rcases Nat.lt_or_ge i (m + 1) with d | d
  · have : i = m := by omega
    subst this; simp
  · rw [bit_ge hs d]; rfl
theorem low_lt {m s : Nat} (hs : s < 2 ^ (m + 1)) (hb : s.testBit m = false) : s < 2 ^ m := lt_of_bits fun i hi => by
  rcases Nat.lt_or_ge i (m + 1) with d | d
  · have : i = m := by omega
    subst this; exact hb
  · exact bit_ge hs d
theorem cnt_up {m s : Nat} : cnt (m + 1) s = cnt m (dif s (2 ^ m)) + if s.testBit m then 1 else 0 := by
  simp only [cnt]
  have : cnt m (dif s (2 ^ m)) = cnt m s := cnt_congr fun i hi => by
    rw [testBit_dif, testBit_pow, decide_eq_false (by omega)]; simp
  rw [this]
section
variable {m : Nat} {B : List Nat} (h : Mat m B)
include h
/-- The bases of a free extension: so large, and independent but for the new one. -/
theorem Mat.free_iff {K : List Nat} (hK : Fam (m + 1) K) (hm : ∀ x, x ∈ K ↔ x ∈ B ∨ ∃ b i, b ∈ B ∧ b.testBit i = true ∧ x = dif b (2 ^ i) ||| 2 ^ m) (x : Nat) :
    x ∈ K ↔ x < 2 ^ (m + 1) ∧ Ind B (dif x (2 ^ m)) ∧ cnt (m + 1) x = rk m B (2 ^ m - 1) := by
  have hB : ∀ b, b ∈ B → b < 2 ^ (m + 1) ∧ b.testBit m = false ∧ dif b (2 ^ m) = b := fun b hb => by
    have h1 := h.lt b hb
    have h2 := bit_ge h1 (Nat.le_refl m)
    refine ⟨by rw [Nat.pow_succ]; omega, h2, Nat.eq_of_testBit_eq fun i => ?_⟩
    rw [testBit_dif, testBit_pow]
    rcases Classical.em (m = i) with c | c
    · subst c; simp [h2]
    · simp [c]
  constructor
  · intro hx
    refine ⟨hK.lt x hx, ?_⟩
    rcases (hm x).1 hx with q | ⟨b, i, hb, hi, rfl⟩
    · obtain ⟨q1, q2, q3⟩ := hB x q
      rw [cnt_up, q3, q2]
      exact ⟨⟨x, q, Inc.refl x⟩, by rw [h.size_full q]; simp⟩
    · have hd : dif b (2 ^ i) < 2 ^ m := dif_lt (h.lt b hb)
      have hdm := bit_ge hd (Nat.le_refl m)
      have e : dif (dif b (2 ^ i) ||| 2 ^ m) (2 ^ m) = dif b (2 ^ i) := Nat.eq_of_testBit_eq fun j => by
        rw [testBit_dif, Nat.testBit_or, testBit_pow]
        rcases Classical.em (m = j) with c | c
        · subst c; simp [hdm]
        · simp [c]
      rw [cnt_up, e, Nat.testBit_or, testBit_pow]
      refine ⟨⟨b, hb, inc_dif _ _⟩, ?_⟩
      have := cnt_dif (h.lt b hb) hi
      rw [← h.size_full hb, this]; simp
  · rintro ⟨h1, h2, h3⟩
    rw [hm x]
    rw [cnt_up] at h3
    cases hb : x.testBit m with
    | false =>
      have hx := low_lt h1 hb
      have e : dif x (2 ^ m) = x := Nat.eq_of_testBit_eq fun i => by
        rw [testBit_dif, testBit_pow]
        rcases Classical.em (m = i) with c | c
        · subst c; simp [hb]
        · simp [c]
      rw [e, hb] at h3
      rw [e] at h2
      obtain ⟨b, hb1⟩ := h.exists_basis
      exact .inl (h.ind_big h2 hb1 (by rw [h.size_full hb1]; simp at h3; omega))
    | true =>
      rw [hb] at h3
      simp at h3
      obtain ⟨J, j1, j2, j3, j4⟩ := h.extend (u := 2 ^ m - 1) (rk m B (2 ^ m - 1)) (dif x (2 ^ m)) (by omega) h2 (fun i hi => by
        rw [full_bit, decide_eq_true_eq]; exact bit_lt (off_lt h1) hi)
      have hJ : J ∈ B := by
        obtain ⟨b, hb1⟩ := h.exists_basis
        exact h.ind_big j1 hb1 (by rw [h.size_full hb1]; omega)
      have hlt := h.lt J hJ
      have : ¬ Inc J (dif x (2 ^ m)) := fun q => by
        have := cnt_le_of_inc (m := m) q
        omega
      obtain ⟨i, i1, i2⟩ := not_inc this
      refine .inr ⟨J, i, hJ, i1, ?_⟩
      have e : dif x (2 ^ m) = dif J (2 ^ i) := by
        refine inc_eq_of_cnt (m := m) (fun k hk => ?_) (dif_lt hlt) ?_
        · rw [testBit_dif, testBit_pow, j2 k hk]
          rcases Classical.em (i = k) with c | c
          · subst c; rw [i2] at hk; cases hk
          · simp [c]
        · have := cnt_dif hlt i1
          omega
      rw [← e]
      exact (dif_or hb).symm
theorem Mat.free_mat (hm8 : m < 8) {K : List Nat} (hK : Fam (m + 1) K) (hm : ∀ x, x ∈ K ↔ x ∈ B ∨ ∃ b i, b ∈ B ∧ b.testBit i = true ∧ x = dif b (2 ^ i) ||| 2 ^ m) : Mat (m + 1) K where
  toFam := hK
  ne := fun q => by
    obtain ⟨b, hb⟩ := h.exists_basis
    have := (hm b).2 (.inl hb)
    rw [q] at this; cases this
  eqc := fun a ha b hb => by rw [((h.free_iff hK hm a).1 ha).2.2, ((h.free_iff hK hm b).1 hb).2.2]
  ex := fun a ha b hb x h1 h2 => by
    obtain ⟨a1, a2, a3⟩ := (h.free_iff hK hm a).1 ha
    obtain ⟨b1, b2, b3⟩ := (h.free_iff hK hm b).1 hb
    have hx := bit_lt a1 h1
    have ca := cnt_up (m := m) (s := a)
    have cb := cnt_up (m := m) (s := b)
    have hda := off_lt a1
    -- a with x for y, if what is left is so
    have fin : ∀ y, b.testBit y = true → a.testBit y = false → Ind B (dif (dif a (2 ^ x) ||| 2 ^ y) (2 ^ m)) → ∃ y, b.testBit y = true ∧ a.testBit y = false ∧ dif a (2 ^ x) ||| 2 ^ y ∈ K := fun y y1 y2 hi => by
      have hy := bit_lt b1 y1
      exact ⟨y, y1, y2, (h.free_iff hK hm _).2 ⟨or_lt (dif_lt a1) (pow_lt hy), hi, by rw [cnt_swap a1 hy h1 y2, a3]⟩⟩
    have bits : ∀ y, ∀ i, (dif (dif a (2 ^ x) ||| 2 ^ y) (2 ^ m)).testBit i = (((a.testBit i && !decide (x = i)) || decide (y = i)) && !decide (m = i)) := fun y i => by
      rw [testBit_dif, Nat.testBit_or, testBit_dif, testBit_pow, testBit_pow, testBit_pow]
    rcases Classical.em (x = m) with c | c
    · subst c
      have hbx : b.testBit x = false := h2
      rw [h1] at ca
      rw [h2] at cb
      simp at ca cb
      obtain ⟨y, y1, y2, y3⟩ := h.aug a2 b2 (by omega)
      have hyx : x ≠ y := fun q => by subst q; rw [testBit_dif, testBit_pow] at y1; simp at y1
      have y1' : b.testBit y = true := inc_dif _ _ y y1
      have y2' : a.testBit y = false := by
        cases q : a.testBit y with
        | false => rfl
        | true => rw [testBit_dif, testBit_pow, q] at y2; simp [hyx] at y2
      refine fin y y1' y2' ?_
      have e : dif (dif a (2 ^ x) ||| 2 ^ y) (2 ^ x) = dif a (2 ^ x) ||| 2 ^ y := Nat.eq_of_testBit_eq fun i => by
        rw [bits y i, Nat.testBit_or, testBit_dif, testBit_pow, testBit_pow]
        rcases Classical.em (x = i) with d | d
        · subst d; simp; exact fun q => hyx q.symm
        · simp [d]
      rw [e]; exact y3
    · -- what is left of a without x and the new one
      have hxd : (dif a (2 ^ m)).testBit x = true := by
        rw [testBit_dif, testBit_pow, h1]; simp; exact fun q => c q.symm
      have hI : Ind B (dif (dif a (2 ^ m)) (2 ^ x)) := a2.mono (inc_dif _ _)
      have hcI := cnt_dif hda hxd
      have e0 : ∀ i, (dif (dif a (2 ^ m)) (2 ^ x)).testBit i = ((a.testBit i && !decide (m = i)) && !decide (x = i)) := fun i => by
        rw [testBit_dif, testBit_dif, testBit_pow, testBit_pow]
      rcases Classical.em (a.testBit m = false ∧ b.testBit m = true) with d | d
      · refine fin m d.2 d.1 ?_
        refine hI.mono fun i hi => ?_
        rw [bits m i] at hi
        rw [e0]
        cases p1 : a.testBit i <;> cases p2 : decide (x = i) <;> cases p3 : decide (m = i) <;> simp_all
      · have hlt : cnt m (dif (dif a (2 ^ m)) (2 ^ x)) < cnt m (dif b (2 ^ m)) := by
          cases p : a.testBit m <;> cases q : b.testBit m <;> simp [p, q] at d ca cb <;> omega
        obtain ⟨y, y1, y2, y3⟩ := h.aug hI b2 hlt
        have hym : m ≠ y := fun q => by subst q; rw [testBit_dif, testBit_pow] at y1; simp at y1
        have y1' : b.testBit y = true := inc_dif _ _ y y1
        have hxy : x ≠ y := fun q => by subst q; rw [h2] at y1'; cases y1'
        have y2' : a.testBit y = false := by
          rw [e0] at y2
          simpa [hym, hxy] using y2
        refine fin y y1' y2' ?_
        have e : dif (dif a (2 ^ x) ||| 2 ^ y) (2 ^ m) = dif (dif a (2 ^ m)) (2 ^ x) ||| 2 ^ y := Nat.eq_of_testBit_eq fun i => by
          rw [bits y i, Nat.testBit_or, e0, testBit_pow]
          rcases Classical.em (m = i) with p | p
          · subst p; simp; exact fun q => hym q.symm
          · simp [p]
        rw [e]; exact y3
/-! ### relaxed -/
theorem Mat.relax {s : Nat} (hs : s < 2 ^ m) (hc : Circ m B s) (hh : Hyper m B s) {K : List Nat} (hK : Fam m K) (hm : ∀ x, x ∈ K ↔ x ∈ B ∨ x = s) : Mat m K := by
  obtain ⟨c1, c2⟩ := hc
  obtain ⟨f1, f2⟩ := hh
  have hsz : cnt m s = rk m B (2 ^ m - 1) := by omega
  have hsub : ∀ x, s.testBit x = true → Ind B (dif s (2 ^ x)) := fun x hx => (h.ind_iff (dif_lt hs)).2 (c2 x (bit_lt hs hx) hx)
  have hbig : ∀ I, Ind B I → cnt m I = rk m B (2 ^ m - 1) → I ∈ B := fun I hI hcI => by
    obtain ⟨b, hb⟩ := h.exists_basis
    exact h.ind_big hI hb (by rw [h.size_full hb]; omega)
  refine ⟨hK, fun q => ?_, fun a ha b hb => ?_, fun a ha b hb x h1 h2 => ?_⟩
  · obtain ⟨b, hb⟩ := h.exists_basis
    have := (hm b).2 (.inl hb)
    rw [q] at this; cases this
  · have : ∀ a, a ∈ K → cnt m a = rk m B (2 ^ m - 1) := fun a ha => by
      rcases (hm a).1 ha with q | rfl
      · exact h.size_full q
      · exact hsz
    rw [this a ha, this b hb]
  · rcases (hm a).1 ha with qa | rfl
    · rcases (hm b).1 hb with qb | rfl
      · obtain ⟨y, y1, y2, y3⟩ := h.ex a qa b qb x h1 h2
        exact ⟨y, y1, y2, (hm _).2 (.inl y3)⟩
      · -- a a basis, b the circuit
        have ha' := h.lt a qa
        have hx := bit_lt ha' h1
        have hI : Ind B (dif a (2 ^ x)) := ⟨a, qa, inc_dif _ _⟩
        have hcd := cnt_dif ha' h1
        have hsa := h.size_full qa
        rcases Classical.em (∃ y, b.testBit y = true ∧ a.testBit y = false ∧ Ind B (dif a (2 ^ x) ||| 2 ^ y)) with q | q
        · obtain ⟨y, y1, y2, y3⟩ := q
          exact ⟨y, y1, y2, (hm _).2 (.inl (hbig _ y3 (by rw [cnt_swap ha' (bit_lt hs y1) h1 y2, hsa])))⟩
        · have hcl : rk m B (dif a (2 ^ x) ||| b) = rk m B (dif a (2 ^ x)) := h.rk_all hs fun i hi => by
            have him := bit_lt hs hi
            cases p : a.testBit i with
            | true =>
              have hix : x ≠ i := fun z => by subst z; rw [h2] at hi; cases hi
              have : dif a (2 ^ x) ||| 2 ^ i = dif a (2 ^ x) := Nat.eq_of_testBit_eq fun j => by
                rw [Nat.testBit_or, testBit_pow]
                rcases Classical.em (i = j) with z | z
                · subst z; rw [testBit_dif, testBit_pow, p]; simp [hix]
                · simp [z]
              rw [this]
            | false =>
              have hn : ¬ Ind B (dif a (2 ^ x) ||| 2 ^ i) := fun z => q ⟨i, hi, p, z⟩
              have hlt : dif a (2 ^ x) ||| 2 ^ i < 2 ^ m := or_lt (dif_lt ha') (pow_lt him)
              have h3 := h.rk_size (dif a (2 ^ x) ||| 2 ^ i)
              have h4 := h.rk_step (dif a (2 ^ x)) him
              have h5 : rk m B (dif a (2 ^ x) ||| 2 ^ i) ≠ cnt m (dif a (2 ^ x) ||| 2 ^ i) := fun z => hn ((h.ind_iff hlt).2 z)
              have h6 : cnt m (dif a (2 ^ x) ||| 2 ^ i) = cnt m (dif a (2 ^ x)) + 1 := cnt_add him (by rw [testBit_dif, p]; rfl)
              have h7 := (h.ind_iff (dif_lt ha' (b := 2 ^ x))).1 hI
              have h8 := h.rk_mono (inc_or_l (dif a (2 ^ x)) (2 ^ i))
              omega
          have h7 := (h.ind_iff (dif_lt ha' (b := 2 ^ x))).1 hI
          -- so a without x is within b
          have hin : Inc (dif a (2 ^ x)) b := fun i hi => by
            cases p : b.testBit i with
            | true => rfl
            | false =>
              exfalso
              have him := bit_lt (dif_lt ha' (b := 2 ^ x)) hi
              have h3 := h.rk_mono (inc_or_l b (2 ^ i))
              have h4 := h.rk_mono (s := b ||| 2 ^ i) (t := dif a (2 ^ x) ||| b) (inc_or (inc_or_r _ _) ((inc_pow hi).trans (inc_or_l _ _)))
              exact f2 i him p (by omega)
          have hnb : ¬ Inc b (dif a (2 ^ x)) := fun z => by
            have := cnt_le_of_inc (m := m) z
            omega
          obtain ⟨y, y1, y2⟩ := not_inc hnb
          have hxy : x ≠ y := fun z => by subst z; rw [h2] at y1; cases y1
          have y2' : a.testBit y = false := by
            rw [testBit_dif, testBit_pow] at y2; simpa [hxy] using y2
          refine ⟨y, y1, y2', (hm _).2 (.inr ?_)⟩
          refine inc_eq_of_cnt (m := m) (inc_or hin (inc_pow y1)) hs ?_
          rw [cnt_swap ha' (bit_lt hs y1) h1 y2']; omega
    · rcases (hm b).1 hb with qb | rfl
      · have hI := hsub x h1
        have hcd := cnt_dif hs h1
        have hsb := h.size_full qb
        obtain ⟨y, y1, y2, y3⟩ := h.aug hI ⟨b, qb, Inc.refl b⟩ (by omega)
        have hxy : x ≠ y := fun z => by subst z; rw [h2] at y1; cases y1
        have y2' : a.testBit y = false := by
          rw [testBit_dif, testBit_pow] at y2; simpa [hxy] using y2
        exact ⟨y, y1, y2', (hm _).2 (.inl (hbig _ y3 (by rw [cnt_swap hs (bit_lt (h.lt b qb) y1) h1 y2', hsz])))⟩
      · rw [h1] at h2; cases h2
end
end Go.SH
