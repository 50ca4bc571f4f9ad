/-
  Kinds of sets of a matroid: independent ones, circuits, flats, hyperplanes, closures; the statement AxiomsRanks as a plain law. Conditions: lists are no longer than 2^63 - 1.
-/
import Derived.Test.YtkjfccdfmjnkbaaLA
import Derived.Test.YtkjfccdfmjnkbaaSprotakeep
set_option linter.unusedSimpArgs false
set_option linter.unusedVariables false
namespace Go.SH
open Go Go.AX

/-- Each other element makes more of it. -/
def Flat (m : Nat) (B : List Nat) (s : Nat) : Prop := ∀ i, i < m → s.testBit i = false → rk m B (s ||| 2 ^ i) ≠ rk m B s
instance (m : Nat) (B : List Nat) (s : Nat) : Decidable (Flat m B s) := by unfold Flat; infer_instance
def Circ (m : Nat) (B : List Nat) (s : Nat) : Prop := rk m B s + 1 = cnt m s ∧ ∀ i, i < m → s.testBit i = true → rk m B (dif s (2 ^ i)) = cnt m (dif s (2 ^ i))
instance (m : Nat) (B : List Nat) (s : Nat) : Decidable (Circ m B s) := by unfold Circ; infer_instance
def Hyper (m : Nat) (B : List Nat) (s : Nat) : Prop := rk m B s + 1 = rk m B (2 ^ m - 1) ∧ Flat m B s
instance (m : Nat) (B : List Nat) (s : Nat) : Decidable (Hyper m B s) := by unfold Hyper; infer_instance
theorem testBit_iff_bit (s i : Nat) : iand ((s : Int) / 2 ^ i) 1 = 0 ↔ s.testBit i = false := by
  have := bit_nat s i
  rw [toNat_nat] at this
  rw [this]; cases s.testBit i <;> simp

theorem axioms_flat_nat {m : Nat} (B : List Nat) (h8 : m ≤ 8) {s : Nat} (hs : s < 2 ^ m) : axioms_flat (cs (rkL m B)) m s = some (decide (Flat m B s)) := by
  have h256 := pow_le8 h8
  refine Gets.eq ?_
  unfold axioms_flat
  simp only [cs_len, rkL_len]
  refine gBind (R := fun z => match z with | .inl _ => Flat m B s | .inr r => r = false ∧ ¬ Flat m B s)
    (gFor m (fun k v => v = (k : Int) ∧ ∀ i, i < k → s.testBit i = false → rk m B (s ||| 2 ^ i) ≠ rk m B s) (Nat.zero_le _) ⟨rfl, none_all⟩ ?_) ?_
  · rintro k _ hk ⟨rfl, hb⟩
    refine gIte (fun h1 => ?_) fun h1 => gSome fun i hi => hb i (by omega)
    have hkm : k < m := by omega
    have hl := or_lt hs (pow_lt hkm)
    simp only [toNat_nat, shl_nat', or_nat]
    rw [← shl_nat']
    simp only [testBit_iff_bit, cs_get, rkL_get m B hl, rkL_get m B hs]
    refine gChk (by omega) (gIte (fun h2 => gSome ⟨rfl, fun h3 => h3 k hkm h2.1 (by omega)⟩) fun h2 => gSome ⟨hkm, by simp, step_all hb fun h3 h4 => h2 ⟨h3, by omega⟩⟩)
  · rintro (u | rr) hz
    · exact gSome (decide_eq_true hz).symm
    · exact gSome (by rw [hz.1, decide_eq_false hz.2])

theorem axioms_Flats_spec (n : Int) (l : List Int) (hl : l.length ≤ 9223372036854775807) :
    Gets (axioms_Flats n l) (fun r => (r.2 = 0 ∧ ∃ m B, n = (m : Nat) ∧ l = cs B ∧ Mat m B ∧ r.1 = cs ((List.range (2 ^ m)).filter fun s => Flat m B s)) ∨ (r.2 ≠ 0 ∧ r.1 = [] ∧ ¬ ∃ m B, n = (m : Nat) ∧ l = cs B ∧ Mat m B)) := by
  unfold axioms_Flats
  refine gBind (axioms_family_spec n l hl _ Flat ?_) fun r hr => gSome hr
  rintro m B rfl rfl hM s hs
  unfold axioms_Flats_1
  rw [axioms_flat_nat B hM.m8 hs]; rfl
theorem axioms_Hyperplanes_spec (n : Int) (l : List Int) (hl : l.length ≤ 9223372036854775807) :
    Gets (axioms_Hyperplanes n l) (fun r => (r.2 = 0 ∧ ∃ m B, n = (m : Nat) ∧ l = cs B ∧ Mat m B ∧ r.1 = cs ((List.range (2 ^ m)).filter fun s => Hyper m B s)) ∨ (r.2 ≠ 0 ∧ r.1 = [] ∧ ¬ ∃ m B, n = (m : Nat) ∧ l = cs B ∧ Mat m B)) := by
  unfold axioms_Hyperplanes
  refine gBind (axioms_family_spec n l hl _ Hyper ?_) fun r hr => gSome hr
  rintro m B rfl rfl hM s hs
  have h256 := pow_le8 hM.m8
  have hpos : 0 < 2 ^ m := Nat.pow_pos (by omega)
  unfold axioms_Hyperplanes_1
  have e1 : (((2 ^ m : Nat) : Int) - 1).toNat = 2 ^ m - 1 := by omega
  have hr := hM.rk_size (2 ^ m - 1)
  have hc := cnt_le m (2 ^ m - 1)
  have h8 := hM.m8
  simp only [cs_len, rkL_len, e1, toNat_nat, cs_get, rkL_get m B hs, rkL_get m B (show 2 ^ m - 1 < 2 ^ m by omega), axioms_flat_nat B hM.m8 hs]
  rw [chk_pos (by omega)]
  by_cases h1 : ((rk m B s : Nat) : Int) = ((rk m B (2 ^ m - 1) : Nat) : Int) - 1
  · have h1' : rk m B s + 1 = rk m B (2 ^ m - 1) := by omega
    simp [h1, Hyper, h1']
  · have h1' : ¬ rk m B s + 1 = rk m B (2 ^ m - 1) := by omega
    simp [h1, Hyper, h1']
theorem axioms_Independents_spec (n : Int) (l : List Int) (hl : l.length ≤ 9223372036854775807) :
    Gets (axioms_Independents n l) (fun r => (r.2 = 0 ∧ ∃ m B, n = (m : Nat) ∧ l = cs B ∧ Mat m B ∧ r.1 = cs ((List.range (2 ^ m)).filter fun s => rk m B s = cnt m s)) ∨ (r.2 ≠ 0 ∧ r.1 = [] ∧ ¬ ∃ m B, n = (m : Nat) ∧ l = cs B ∧ Mat m B)) := by
  unfold axioms_Independents
  refine gBind (axioms_family_spec n l hl _ (fun m B s => rk m B s = cnt m s) ?_) fun r hr => gSome hr
  rintro m B rfl rfl hM s hs
  have h256 := pow_le8 hM.m8
  unfold axioms_Independents_1
  simp only [cs_len, rkL_len, toNat_nat, cs_get, rkL_get m B hs]
  rw [chk_pos (by omega), axioms_size_nat (by omega), size_of_lt hs hM.m8]
  simp only [Option.bind_some]
  congr 1
  rw [Bool.eq_iff_iff, decide_eq_true_eq, decide_eq_true_eq]; omega
theorem zero_bit {t : Nat} (h : t = 0) (i : Nat) : t.testBit i = false := by subst h; simp
theorem axioms_Circuits_1_nat {m : Nat} (B : List Nat) (h8 : m ≤ 8) {s : Nat} (hs : s < 2 ^ m) : axioms_Circuits_1 (cs (rkL m B)) s = some (decide (Circ m B s)) := by
  have h256 := pow_le8 h8
  refine Gets.eq ?_
  unfold axioms_Circuits_1
  simp only [cs_len, rkL_len, toNat_nat, cs_get, rkL_get m B hs]
  rw [axioms_size_nat (by omega), size_of_lt hs h8]
  have hc := cnt_le m s
  simp only [Option.bind_some]
  refine gChk (by omega) (gChk (by omega) (gIte (fun h1 => gSome ?_) fun h1 => ?_))
  · refine (decide_eq_false fun h => h1 ?_).symm
    have := h.1; omega
  · have h1' : rk m B s + 1 = cnt m s := by omega
    refine gBind (R := fun z => match z with | .inl _ => ∀ i, i < m → s.testBit i = true → rk m B (dif s (2 ^ i)) = cnt m (dif s (2 ^ i)) | .inr r => r = false ∧ ¬ ∀ i, i < m → s.testBit i = true → rk m B (dif s (2 ^ i)) = cnt m (dif s (2 ^ i)))
      (gLoop (fun o : Int => ∃ t : Nat, o = (t : Int) ∧ t < 256 ∧ Inc t s ∧ ∀ i, i < m → s.testBit i = true → t.testBit i = false → rk m B (dif s (2 ^ i)) = cnt m (dif s (2 ^ i))) (fun o => o.toNat) ⟨s, rfl, by omega, Inc.refl s, fun i _ h2 h3 => by rw [h2] at h3; cases h3⟩ ?_) ?_
    · rintro _ ⟨t, rfl, ht, hts, hall⟩
      refine gIte (fun h2 => gChk (by omega) ?_) fun h2 => gSome fun i h3 h4 => hall i h3 h4 (zero_bit (by omega) i)
      have hlow := low_spec ht (show t ≠ 0 by omega)
      have hless := hlow.less
      have hd : dif s (2 ^ lo1 t) < 2 ^ m := dif_lt hs
      simp only [hlow.neg, hlow.rest, dif_nat, toNat_nat, rkL_get m B hd]
      rw [axioms_size_nat (by omega), size_of_lt hd h8]
      simp only [Option.bind_some]
      have hbit := hts _ hlow.bit
      refine gChk (by omega) (gIte (fun h3 => gSome ⟨rfl, fun h4 => h3 (by have := h4 _ (bit_lt hs hbit) hbit; omega)⟩) fun h3 => gChk (by omega) (gSome ⟨⟨_, rfl, by omega, (inc_dif _ _).trans hts, fun i h4 h5 h6 => ?_⟩, by simp only [toNat_nat]; omega⟩))
      rw [testBit_dif, testBit_pow] at h6
      by_cases e : lo1 t = i
      · subst e; omega
      · have : decide (lo1 t = i) = false := by simp [e]
        rw [this] at h6
        exact hall i h4 h5 (by simpa using h6)
    · rintro (u | rr) hz
      · exact gSome (decide_eq_true ⟨h1', hz⟩).symm
      · exact gSome (by rw [hz.1, decide_eq_false fun h => hz.2 h.2])
theorem axioms_Circuits_spec (n : Int) (l : List Int) (hl : l.length ≤ 9223372036854775807) :
    Gets (axioms_Circuits n l) (fun r => (r.2 = 0 ∧ ∃ m B, n = (m : Nat) ∧ l = cs B ∧ Mat m B ∧ r.1 = cs ((List.range (2 ^ m)).filter fun s => Circ m B s)) ∨ (r.2 ≠ 0 ∧ r.1 = [] ∧ ¬ ∃ m B, n = (m : Nat) ∧ l = cs B ∧ Mat m B)) := by
  unfold axioms_Circuits
  refine gBind (axioms_family_spec n l hl _ Circ ?_) fun r hr => gSome hr
  rintro m B rfl rfl hM s hs
  exact axioms_Circuits_1_nat B hM.m8 hs

/-- The closure: its elements. -/
def IsCl (m : Nat) (B : List Nat) (s c : Nat) : Prop := c < 2 ^ m ∧ ∀ i, i < m → (c.testBit i = true ↔ s.testBit i = true ∨ rk m B (s ||| 2 ^ i) = rk m B s)
theorem axioms_Closure_ok {m : Nat} {B : List Nat} (h : Mat m B) {s : Nat} (hs : s < 2 ^ m) : Gets (axioms_Closure m (cs B) s) (fun r => r.2 = 0 ∧ ∃ c : Nat, r.1 = (c : Int) ∧ IsCl m B s c) := by
  have h256 := pow_le8 h.m8
  have h8 := h.m8
  unfold axioms_Closure
  rw [h.check, axioms_ranks_spec h.toFam, sets_Check_nat h.m8 hs]
  simp only [Option.bind_some, ne_eq, not_true_eq_false, if_false, cs_len, rkL_len]
  refine gBind (R := fun o : Int => ∃ c : Nat, o = (c : Int) ∧ IsCl m B s c) (gFor m (fun k x => x.2 = (k : Int) ∧ ∃ c : Nat, x.1 = (c : Int) ∧ c < 2 ^ m ∧ ∀ i, i < m → (c.testBit i = true ↔ s.testBit i = true ∨ (i < k ∧ rk m B (s ||| 2 ^ i) = rk m B s))) (Nat.zero_le _) ⟨rfl, s, rfl, hs, fun i hi => by simp⟩ ?_) fun o ho => gSome ⟨rfl, ho⟩
  rintro k ⟨_, _⟩ hk ⟨rfl, c, rfl, hc, hb⟩
  simp only
  refine gIte (fun h1 => ?_) fun h1 => gSome ⟨c, rfl, hc, fun i hi => by rw [hb i hi]; constructor <;> (rintro (q | q); exact .inl q; exact .inr (by first | exact q.2 | exact ⟨by omega, q⟩))⟩
  have hkm : k < m := by omega
  have hl := or_lt hs (pow_lt hkm)
  simp only [toNat_nat, shl_nat', or_nat, cs_get, rkL_get m B hl, rkL_get m B hs]
  refine gChk (by omega) (gIte (fun h2 => gChk (by omega) (gSome ⟨hkm, by simp, _, rfl, or_lt hc (pow_lt hkm), fun i hi => ?_⟩)) fun h2 => gSome ⟨hkm, by simp, c, rfl, hc, fun i hi => ?_⟩)
  · rw [Nat.testBit_or, testBit_pow, Bool.or_eq_true, decide_eq_true_eq, hb i hi]
    constructor
    · rintro ((q | q) | rfl)
      · exact .inl q
      · exact .inr ⟨by omega, q.2⟩
      · exact .inr ⟨by omega, by omega⟩
    · rintro (q | ⟨q1, q2⟩)
      · exact .inl (.inl q)
      · rcases Nat.lt_or_ge i k with r | r
        · exact .inl (.inr ⟨r, q2⟩)
        · right; omega
  · rw [hb i hi]
    constructor
    · rintro (q | q)
      · exact .inl q
      · exact .inr ⟨by omega, q.2⟩
    · rintro (q | ⟨q1, q2⟩)
      · exact .inl q
      · rcases Nat.lt_or_ge i k with r | r
        · exact .inr ⟨r, q2⟩
        · have : i = k := by omega
          subst this; exact absurd (by omega) h2
theorem axioms_Closure_bad (n : Int) (l : List Int) (s : Int) (hl : l.length ≤ 9223372036854775807) : Gets (axioms_Closure n l s) (fun r => (r.2 ≠ 0 ∧ r.1 = 0) ∨ ∃ m B a, n = (m : Nat) ∧ l = cs B ∧ Mat m B ∧ s = (a : Nat) ∧ a < 2 ^ m) := by
  by_cases h : ∃ m B a, n = (m : Nat) ∧ l = cs B ∧ Mat m B ∧ s = (a : Nat) ∧ a < 2 ^ m
  · obtain ⟨m, B, a, rfl, rfl, h1, rfl, h2⟩ := h
    exact (axioms_Closure_ok h1 h2).mono fun _ _ => .inr ⟨m, B, a, rfl, rfl, h1, rfl, h2⟩
  · unfold axioms_Closure
    refine gBind (axioms_Check_spec n l hl) fun y hy => gIte (fun q => gSome (.inl ⟨q, rfl⟩)) fun q => ?_
    rcases hy with ⟨_, m, B, rfl, rfl, hM⟩ | ⟨q', _⟩
    · refine gBind (sets_Check_spec m s) fun y1 h1 => gIte (fun q => gSome (.inl ⟨q, rfl⟩)) fun q => ?_
      rcases h1 with ⟨_, m', a, h2, _, rfl, h3⟩ | ⟨h1, _⟩
      · have : m' = m := by omega
        subst this
        exact absurd ⟨m', B, a, rfl, rfl, hM, rfl, h3⟩ h
      · omega
    · exact absurd q' q

section
variable {m : Nat} {B : List Nat} (h : Mat m B)
include h
theorem Mat.cl_inc {s c : Nat} (hs : s < 2 ^ m) (hc : IsCl m B s c) : Inc s c := fun i hi => have _ := h; (hc.2 i (bit_lt hs hi)).2 (.inl hi)
theorem Mat.cl_rk {s c : Nat} (hs : s < 2 ^ m) (hc : IsCl m B s c) : rk m B c = rk m B s := by
  have e : s ||| c = c := (or_eq_iff s c).2 (h.cl_inc hs hc)
  have := h.rk_all (s := s) hc.1 fun i hi => by
    rcases (hc.2 i (bit_lt hc.1 hi)).1 hi with q | q
    · have : s ||| 2 ^ i = s := by
        rw [Nat.or_comm]; exact (or_eq_iff _ _).2 (inc_pow q)
      rw [this]
    · exact q
  rwa [e] at this
/-- What makes no more of a set makes no more of a greater one. -/
theorem Mat.rk_stay {s t i : Nat} (hst : Inc s t) (he : rk m B (s ||| 2 ^ i) = rk m B s) : rk m B (t ||| 2 ^ i) = rk m B t := by
  have h1 := h.rk_sub t (s ||| 2 ^ i)
  have e : t ||| (s ||| 2 ^ i) = t ||| 2 ^ i := by
    rw [← Nat.or_assoc]; congr 1
    rw [Nat.or_comm]; exact (or_eq_iff s t).2 hst
  rw [e] at h1
  have h2 : rk m B s ≤ rk m B (t &&& (s ||| 2 ^ i)) := h.rk_mono (inc_and hst (inc_or_l _ _))
  have h3 : rk m B t ≤ rk m B (t ||| 2 ^ i) := h.rk_mono (inc_or_l _ _)
  omega
theorem Mat.cl_mono {s t c d : Nat} (hs : s < 2 ^ m) (ht : t < 2 ^ m) (hst : Inc s t) (hc : IsCl m B s c) (hd : IsCl m B t d) : Inc c d := fun i hi => by
  have him := bit_lt hc.1 hi
  refine (hd.2 i him).2 ?_
  rcases (hc.2 i him).1 hi with q | q
  · exact .inl (hst i q)
  · exact .inr (h.rk_stay hst q)
theorem Mat.cl_cl {s c d : Nat} (hs : s < 2 ^ m) (hc : IsCl m B s c) (hd : IsCl m B c d) : d = c := by
  refine Inc.antisymm (fun i hi => ?_) (h.cl_inc hc.1 hd)
  have him := bit_lt hd.1 hi
  rcases (hd.2 i him).1 hi with q | q
  · exact q
  · refine (hc.2 i him).2 (.inr ?_)
    have h1 := h.cl_rk hs hc
    have h2 : rk m B (s ||| 2 ^ i) ≤ rk m B (c ||| 2 ^ i) := h.rk_mono (inc_or ((h.cl_inc hs hc).trans (inc_or_l _ _)) (inc_or_r _ _))
    have h3 : rk m B s ≤ rk m B (s ||| 2 ^ i) := h.rk_mono (inc_or_l _ _)
    omega
end

def twoB : List Nat := [3, 5, 6, 9, 10, 12]
theorem two_eq : rotakeep_two = some (4, cs twoB) := rfl
def exB (m : Nat) (B : List Nat) : Bool := B.all fun a => B.all fun b => (List.range m).all fun x => !(a.testBit x && !b.testBit x) || (List.range m).any fun y => b.testBit y && !a.testBit y && B.contains (dif a (2 ^ x) ||| 2 ^ y)
theorem ex_small {B : List Nat} {m : Nat} (hlt : ∀ s, s ∈ B → s < 2 ^ m) (h : exB m B = true) :
    ∀ a, a ∈ B → ∀ b, b ∈ B → ∀ x, a.testBit x = true → b.testBit x = false → ∃ y, b.testBit y = true ∧ a.testBit y = false ∧ dif a (2 ^ x) ||| 2 ^ y ∈ B := fun a ha b hb x h1 h2 => by
  have h3 := List.all_eq_true.1 (List.all_eq_true.1 (List.all_eq_true.1 h a ha) b hb) x (List.mem_range.2 (bit_lt (hlt a ha) h1))
  rw [h1, h2] at h3
  simp only [Bool.not_false, Bool.and_self, Bool.not_true, Bool.false_or] at h3
  obtain ⟨y, _, h4⟩ := List.any_eq_true.1 h3
  simp only [Bool.and_eq_true, Bool.not_eq_true', List.contains_iff_mem] at h4
  exact ⟨y, h4.1.1, h4.1.2, h4.2⟩
theorem rise_small {B : List Nat} (h : ∀ j, j < B.length → ∀ i, i < j → B.getD i 0 < B.getD j 0) : ∀ i j, i < j → j < B.length → B.getD i 0 < B.getD j 0 := fun i j h1 h2 => h j h2 i h1
theorem mat_two : Mat 4 twoB := ⟨⟨by omega, by decide, rise_small (by decide)⟩, by decide, by decide, ex_small (m := 4) (by decide) (by decide)⟩

end Go.SH
