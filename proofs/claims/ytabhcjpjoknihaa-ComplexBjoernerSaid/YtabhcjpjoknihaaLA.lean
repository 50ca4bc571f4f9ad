/-
  The references' plain helpers as they compute: All, Within, In, Elements, Size. Package axioms as it computes: sizes, exchanges, matroids, ranks, families of a kind.  Conditions: none.
-/
import Derived.Test.YtabhcjpjoknihaaLOc
import Derived.Test.YtabhcjpjoknihaaLS
import Derived.Test.YtabhcjpjoknihaaLM
import Derived.Test.YtabhcjpjoknihaaSp

set_option linter.unusedSimpArgs false
set_option linter.unusedVariables false
namespace Go.SH
open Go Go.AX
end Go.SH

set_option linter.unusedSimpArgs false
set_option linter.unusedVariables false
namespace Go.SH
open Go Go.AX

theorem axioms_size_nat {a : Nat} (h : a < 256) : axioms_size (a : Int) = some ((size a : Nat) : Int) := by
  unfold axioms_size
  rw [chk_pos (by omega)]
  simp [bits_OnesCount, oc_size h]

/-- Whether each element of a that b has not may be exchanged. -/
def Exch (B : List Nat) (a b : Nat) : Prop := ∀ x, a.testBit x = true → b.testBit x = false → ∃ y, b.testBit y = true ∧ a.testBit y = false ∧ dif a (2 ^ x) ||| 2 ^ y ∈ B

theorem axioms_exchange_spec {m : Nat} {B : List Nat} (hf : Fam m B) (n : Int) {a b : Nat} (ha : a < 256) (hb : b < 256) : Gets (axioms_exchange n (cs B) a b) (fun r => r = true ↔ Exch B a b) := by
  have hlen := hf.len
  unfold axioms_exchange
  simp only [dif_nat]
  have hda : dif a b < 256 := dif_lt (n := 8) ha
  have hdb : dif b a < 256 := dif_lt (n := 8) hb
  refine gBind (R := fun z => match z with | .inl _ => Exch B a b | .inr r => r = false ∧ ¬ Exch B a b)
    (gLoop (fun o => ∃ t : Nat, o = (t : Int) ∧ t < 256 ∧ Inc t (dif a b) ∧ ∀ x, a.testBit x = true → b.testBit x = false → t.testBit x = false → ∃ y, b.testBit y = true ∧ a.testBit y = false ∧ dif a (2 ^ x) ||| 2 ^ y ∈ B) (fun o => o.toNat) (s0 := ((dif a b : Nat) : Int)) ⟨_, rfl, hda, Inc.refl _, fun x h1 h2 h3 => ?_⟩ ?_) ?_
  · rw [testBit_dif, h1, h2] at h3; cases h3
  · rintro _ ⟨t, rfl, ht, hta, hall⟩
    refine gIte (fun h1 => ?_) fun h1 => gSome fun x h2 h3 => hall x h2 h3 (by have : t = 0 := by omega
                                                                               subst this; simp)
    have hlow := low_spec ht (show t ≠ 0 by omega)
    have hbit := hta _ hlow.bit
    rw [testBit_dif] at hbit
    simp only [Bool.and_eq_true, Bool.not_eq_true'] at hbit
    have hless := hlow.less
    refine gChk (by omega) ?_
    simp only [hlow.neg, hlow.rest, dif_nat]
    refine gBind (R := fun r => r = true ↔ ∃ y, b.testBit y = true ∧ a.testBit y = false ∧ dif a (2 ^ lo1 t) ||| 2 ^ y ∈ B)
      (gLoop (fun o => ∃ u : Nat, o.2 = (u : Int) ∧ u < 256 ∧ Inc u (dif b a) ∧ (o.1 = true → ∃ y, b.testBit y = true ∧ a.testBit y = false ∧ dif a (2 ^ lo1 t) ||| 2 ^ y ∈ B) ∧ (o.1 = false → ∀ y, b.testBit y = true → a.testBit y = false → u.testBit y = false → dif a (2 ^ lo1 t) ||| 2 ^ y ∉ B)) (fun o => o.2.toNat) (s0 := (false, ((dif b a : Nat) : Int)))
        ⟨_, rfl, hdb, Inc.refl _, fun h => by simp at h, fun _ y h1 h2 h3 => ?_⟩ ?_) ?_
    · rw [testBit_dif, h1, h2] at h3; cases h3
    · rintro ⟨ok, _⟩ ⟨u, rfl, hu, huc, hok1, hok2⟩
      simp only at hok1 hok2 ⊢
      refine gIte (fun h2 => ?_) fun h2 => gSome ?_
      · have hlow2 := low_spec hu (show u ≠ 0 by omega)
        have hbit2 := huc _ hlow2.bit
        rw [testBit_dif] at hbit2
        simp only [Bool.and_eq_true, Bool.not_eq_true'] at hbit2
        have hless2 := hlow2.less
        refine gChk (by omega) ?_
        simp only [hlow2.neg, hlow2.rest, or_nat]
        refine gBind (BinarySearch_spec (cs B) _ hf.Rise (by simp; omega)) fun y hy => gChk (by omega) (gSome ⟨⟨_, rfl, by omega, (inc_dif _ _).trans huc, fun h3 => ?_, fun h3 y' h4 h5 h6 => ?_⟩, by simp only [toNat_nat]; omega⟩)
        · exact ⟨_, hbit2.1, hbit2.2, (cs_mem _ _).1 (hy.1 h3)⟩
        · rw [testBit_dif, testBit_pow] at h6
          by_cases e : lo1 u = y'
          · subst e
            intro h7
            have := hy.2 ((cs_mem _ _).2 h7)
            simp only at h3
            rw [h3] at this; cases this
          · have : decide (lo1 u = y') = false := by simp [e]
            rw [this] at h6
            refine hok2 ?_ y' h4 h5 (by simpa using h6)
            cases ok
            · rfl
            · exact absurd rfl h2.2
      · show ok = true ↔ _
        constructor
        · exact hok1
        · rintro ⟨y, h3, h4, h5⟩
          cases hk : ok
          · exfalso
            have hu0 : u = 0 := by
              rcases Nat.eq_zero_or_pos u with q | q
              · exact q
              · exact absurd ⟨by omega, by rw [hk]; simp⟩ h2
            subst hu0
            exact hok2 hk y h3 h4 (by simp) h5
          · rfl
    · intro ok hok
      refine gIte (fun h2 => gSome ⟨rfl, fun h3 => h2 (hok.2 (h3 _ hbit.1 hbit.2))⟩) fun h2 => gChk (by omega) (gSome ⟨⟨_, rfl, by omega, (inc_dif _ _).trans hta, fun x h3 h4 h5 => ?_⟩, by simp only [toNat_nat]; omega⟩)
      rw [testBit_dif, testBit_pow] at h5
      by_cases e : lo1 t = x
      · subst e; exact hok.1 (by simpa using h2)
      · have : decide (lo1 t = x) = false := by simp [e]
        rw [this] at h5
        exact hall x h3 h4 (by simpa using h5)
  · rintro (u | rr) hz
    · exact gSome ⟨fun _ => hz, fun _ => rfl⟩
    · exact gSome ⟨fun h => (by rw [hz.1] at h; cases h), fun h => absurd h hz.2⟩

theorem axioms_Check_spec (n : Int) (l : List Int) (hl : l.length ≤ 9223372036854775807) : Gets (axioms_Check n l) (fun r => (r = 0 ∧ ∃ m B, n = (m : Nat) ∧ l = cs B ∧ Mat m B) ∨ (r ≠ 0 ∧ ¬ ∃ m B, n = (m : Nat) ∧ l = cs B ∧ Mat m B)) := by
  unfold axioms_Check
  refine gBind (sets_Family_spec n l hl) fun y hy => gIte (fun h => gSome (.inr ⟨by omega, ?_⟩)) fun h => ?_
  · rintro ⟨m, B, rfl, rfl, hM⟩
    rcases hy with ⟨q, _⟩ | ⟨_, q⟩
    · rcases h with h | h
      · exact h q
      · have : B.length = 0 := by simpa using h
        exact hM.ne (List.eq_nil_of_length_eq_zero this)
    · exact q ⟨m, B, rfl, rfl, hM.toFam⟩
  obtain ⟨m, B, rfl, rfl, hf⟩ : ∃ m B, n = (m : Nat) ∧ l = cs B ∧ Fam m B := by
    rcases hy with ⟨_, q⟩ | ⟨q, _⟩
    · exact q
    · omega
  have h256 := pow_le8 hf.m8
  have hlen := hf.len
  have uniq : ∀ {p : Nat → List Nat → Prop}, (∃ m' L', (m : Int) = (m' : Nat) ∧ cs B = cs L' ∧ p m' L') → p m B := by
    rintro p ⟨m', L', h1, h2, h3⟩
    have : m' = m := by omega
    subst this
    rw [← cs_inj h2] at h3; exact h3
  have hp : 0 < B.length := by rw [cs_len] at h; omega
  have lt : ∀ k, k < B.length → B.getD k 0 < 2 ^ m := fun k hk => hf.lt _ (mem_getD.2 ⟨k, hk, rfl⟩)
  have sz : ∀ k, k < B.length → size (B.getD k 0) = cnt m (B.getD k 0) := fun k hk => size_of_lt (lt k hk) hf.m8
  simp only [cs_len, cs_get]
  refine gBind (R := fun z => match z with | .inl _ => ∀ k, k < B.length → cnt m (B.getD k 0) = cnt m (B.getD 0 0) | .inr r => r = 1 ∧ ¬ ∀ k, k < B.length → cnt m (B.getD k 0) = cnt m (B.getD 0 0))
    (gFor B.length (fun k v => v = (k : Int) ∧ ∀ j, j < k → cnt m (B.getD j 0) = cnt m (B.getD 0 0)) (Nat.zero_le _) ⟨rfl, none_all⟩ ?_) ?_
  · rintro k _ hk ⟨rfl, hb⟩
    refine gIte (fun h1 => gChk (by omega) ?_) fun h1 => gSome fun j hj => hb j (by omega)
    have hk' : k < B.length := by omega
    have l1 := lt k hk'
    have l2 := lt 0 hp
    simp only [toNat_nat]
    rw [axioms_size_nat (by omega), axioms_size_nat (by omega)]
    simp only [Option.bind_some]
    refine gChk (by omega) (gIte (fun h2 => gSome ⟨rfl, fun h3 => h2 ?_⟩) fun h2 => gSome ⟨hk', by simp, step_all hb ?_⟩)
    · have := h3 k hk'
      rw [← sz k hk', ← sz 0 hp] at this; omega
    · rw [← sz k hk', ← sz 0 hp]; omega
  · rintro (u | rr) hz
    · refine gBind (R := fun z => match z with | .inl _ => ∀ k, k < B.length → ∀ j, j < B.length → Exch B (B.getD k 0) (B.getD j 0) | .inr r => r = 3 ∧ ¬ ∀ k, k < B.length → ∀ j, j < B.length → Exch B (B.getD k 0) (B.getD j 0))
        (gFor B.length (fun k v => v = (k : Int) ∧ ∀ i, i < k → ∀ j, j < B.length → Exch B (B.getD i 0) (B.getD j 0)) (Nat.zero_le _) ⟨rfl, none_all⟩ ?_) ?_
      · rintro k _ hk ⟨rfl, hb⟩
        refine gIte (fun h1 => gChk (by omega) ?_) fun h1 => gSome fun j hj => hb j (by omega)
        have hk' : k < B.length := by omega
        simp only [toNat_nat]
        refine gBind (R := fun z => match z with | .inl _ => ∀ j, j < B.length → Exch B (B.getD k 0) (B.getD j 0) | .inr r => r = 3 ∧ ¬ ∀ j, j < B.length → Exch B (B.getD k 0) (B.getD j 0))
          (gFor B.length (fun j v => v = (j : Int) ∧ ∀ i, i < j → Exch B (B.getD k 0) (B.getD i 0)) (Nat.zero_le _) ⟨rfl, none_all⟩ ?_) ?_
        · rintro j _ hj ⟨rfl, hbj⟩
          refine gIte (fun h2 => gChk (by omega) ?_) fun h2 => gSome fun i hi => hbj i (by omega)
          have hj' : j < B.length := by omega
          have l1 := lt k hk'
          have l2 := lt j hj'
          simp only [toNat_nat]
          refine gBind (axioms_exchange_spec hf m (by omega) (by omega)) fun r hr => gIte (fun h3 => gSome ⟨rfl, fun h4 => h3 (hr.2 (h4 j hj'))⟩) fun h3 => gSome ⟨hj', by simp, step_all hbj (hr.1 (by simpa using h3))⟩
        · rintro (u | rr) hz2
          · exact gSome ⟨hk', by simp, step_all hb hz2⟩
          · exact gSome ⟨hz2.1, fun h4 => hz2.2 (h4 k hk')⟩
      · rintro (u | rr) hz2
        · refine gSome (.inl ⟨rfl, m, B, rfl, rfl, hf, ?_, fun a ha b hb => ?_, fun a ha b hb x h1 h2 => ?_⟩)
          · intro e; rw [e] at hp; simp at hp
          · obtain ⟨i, h1, rfl⟩ := mem_getD.1 ha
            obtain ⟨j, h2, rfl⟩ := mem_getD.1 hb
            rw [hz i h1, hz j h2]
          · obtain ⟨i, h3, rfl⟩ := mem_getD.1 ha
            obtain ⟨j, h4, rfl⟩ := mem_getD.1 hb
            exact hz2 i h3 j h4 x h1 h2
        · refine gSome (.inr ⟨by rw [hz2.1]; simp, fun hn => hz2.2 fun k hk j hj => ?_⟩)
          exact (uniq hn).ex _ (mem_getD.2 ⟨k, hk, rfl⟩) _ (mem_getD.2 ⟨j, hj, rfl⟩)
    · refine gSome (.inr ⟨by rw [hz.1]; simp, fun hn => hz.2 fun k hk => ?_⟩)
      exact (uniq hn).eqc _ (mem_getD.2 ⟨k, hk, rfl⟩) _ (mem_getD.2 ⟨0, hp, rfl⟩)
theorem Mat.check {m : Nat} {B : List Nat} (h : Mat m B) : axioms_Check m (cs B) = some 0 := by
  obtain ⟨r, h1, h2⟩ := axioms_Check_spec m (cs B) (by have := h.len; simp; omega)
  rcases h2 with ⟨rfl, _⟩ | ⟨_, hn⟩
  · exact h1
  · exact absurd ⟨m, B, rfl, rfl, h⟩ hn

/-- The ranks of all sets, as a list. -/
def rkL (m : Nat) (B : List Nat) : List Nat := (List.range (2 ^ m)).map (rk m B)
theorem rkL_len (m : Nat) (B : List Nat) : (rkL m B).length = 2 ^ m := by simp [rkL]
theorem rkL_get (m : Nat) (B : List Nat) {s : Nat} (hs : s < 2 ^ m) : (rkL m B).getD s 0 = rk m B s := by
  simp [rkL, List.getD_eq_getElem?_getD, hs]
theorem rk_take_succ (m : Nat) (B : List Nat) (s : Nat) {k : Nat} (hk : k < B.length) : rk m (B.take (k + 1)) s = max (rk m (B.take k) s) (cnt m (s &&& B.getD k 0)) := by
  unfold rk
  rw [List.take_succ_eq_append_getElem hk, List.foldl_append, List.getD_eq_getElem?_getD, List.getElem?_eq_getElem hk]; rfl
theorem set_getD {l : List Int} {k : Nat} (v : Int) (hk : k < l.length) (j : Nat) : (l.set k v).getD j 0 = if j = k then v else l.getD j 0 := by
  simp only [List.getD_eq_getElem?_getD, List.getElem?_set]
  by_cases e : k = j
  · subst e; simp [hk]
  · rw [if_neg e, if_neg (fun e' => e e'.symm)]
theorem list_ext_getD {l k : List Int} (h : l.length = k.length) (e : ∀ i, i < l.length → l.getD i 0 = k.getD i 0) : l = k := by
  apply List.ext_getElem h
  intro i h1 h2
  have := e i h1
  simpa [List.getD_eq_getElem?_getD, List.getElem?_eq_getElem h1, List.getElem?_eq_getElem h2] using this

theorem filter_fam {m : Nat} (h8 : m ≤ 8) (p : Nat → Bool) : Fam m ((List.range (2 ^ m)).filter p) := by
  refine ⟨h8, fun s hs => by simpa using (List.mem_filter.1 hs).1, fun i j hij hj => ?_⟩
  have hp : ((List.range (2 ^ m)).filter p).Pairwise (· < ·) := List.Pairwise.filter _ List.pairwise_lt_range
  have hi := Nat.lt_trans hij hj
  have := List.pairwise_iff_getElem.1 hp i j hi hj hij
  rw [List.getD_eq_getElem?_getD, List.getD_eq_getElem?_getD, List.getElem?_eq_getElem hj, List.getElem?_eq_getElem hi]
  exact this
end Go.SH
