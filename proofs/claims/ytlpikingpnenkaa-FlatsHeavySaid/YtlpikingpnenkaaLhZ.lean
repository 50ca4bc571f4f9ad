/-
 The law FlatsHeavy: of a rank there are no more flats than of one as far from the top, or between. Conditions: none.
-/
import Derived.Test.YtlpikingpnenkaaLhI
import Derived.Test.YtlpikingpnenkaaSkFlatsHeavy
set_option linter.unusedSimpArgs false
set_option linter.unusedVariables false
namespace Go.SH
open Go Go.AX
theorem lev_get {m : Nat} {B : List Nat} {k : Nat} (h : k < rk m B (2 ^ m - 1) + 1) : (lev m B).getD k 0 = (((flats m B).countP fun s => decide (rk m B s = k) : Nat) : Int) := by
 unfold lev
 rw [List.getD_eq_getElem?_getD, List.getElem?_map, List.getElem?_range h]; rfl
theorem Mat.lev_W {m : Nat} {B : List Nat} (h : Mat m B) (k : Nat) : ((flats m B).countP fun s => decide (rk m B s = k)) = Wn (rk m B) (2 ^ m - 1) k := by
 have h256 := pow_le8 h.m8
 unfold Wn
 rw [nS_len, List.countP_eq_length_filter]
 have hb : ∀ j, (2 ^ m - 1).testBit j = decide (j < m) := fun j => Nat.testBit_two_pow_sub_one ..
 have key : ∀ s, s ∈ (flats m B).filter (fun s => decide (rk m B s = k)) ↔ s ∈ lS fun F => Fl (rk m B) (2 ^ m - 1) F ∧ rk m B F = k := fun s => by
  rw [List.mem_filter, mem_flats, mem_lS, decide_eq_true_eq]
  constructor
  ·rintro ⟨⟨a1, a2⟩, a3⟩
   exact ⟨by omega, ⟨fun j hj => by rw [hb]; simpa using bit_lt a1 hj, fun i hi hn => a2 i (by rw [hb] at hi; simpa using hi) hn⟩, a3⟩
  ·rintro ⟨_, ⟨a1, a2⟩, a3⟩
   refine ⟨⟨lt_of_bits fun i hi => bit_false.2 fun w => ?_, fun i hi hn => a2 i (by rw [hb]; simpa using hi) hn⟩, a3⟩
   have := a1 i w
   rw [hb] at this
   simp at this; omega
 have hn : ((flats m B).filter fun s => decide (rk m B s = k)).Nodup := List.Pairwise.filter _ (List.nodup_range.filter _)
 exact Nat.le_antisymm (len_leS hn fun s hs => (key s).1 hs) (len_leS (lS_nodup _) fun s hs => (key s).2 hs)
theorem Levels_bad {n : Int} {l : List Int} {c : Int} (h : axioms_Check n l = some c) (h0 : c ≠ 0) : flats_Levels n l = some ([], c) := by
 unfold flats_Levels
 rw [flats_of_bad h h0, Option.bind_some, if_pos h0]
theorem lev_two : lev 4 (uniL 4 2) = [1, 4, 1] := by decide +kernel
theorem rotakeep_FlatsHeavy_law (n : Int) (l : List Int) (hl : l.length ≤ 9223372036854775807) : rotakeep_FlatsHeavy n l = some true := by
 refine Gets.eq ?_
 unfold rotakeep_FlatsHeavy
 refine gBindE two_eqU (gBindE (Levels_ok (uni_mat (m := 4) (k := 2) (by omega) (by omega))) ?_)
 rw [lev_two]
 refine gIte (fun _ => ?_) fun q => absurd (by simp) q
 refine gBindE (Same_spec _ _) (gIte (fun q => absurd (by simp) q) fun _ => ?_)
 obtain ⟨c, hc, hs⟩ := axioms_Check_spec n l hl
 rcases hs with ⟨rfl, m, B, rfl, rfl, hM⟩ | ⟨h0, _⟩
 rotate_left
 ·exact gBindE (Levels_bad hc h0) (gIte (fun _ => gSome (by simp)) fun q => absurd h0 q)
 have h8 := hM.m8
 have hR := hM.rk_m8
 refine gBindE (Levels_ok hM) (gIte (fun q => absurd rfl q) fun _ => ?_)
 have hcl : (lev m B).length = rk m B (2 ^ m - 1) + 1 := lev_len m B
 simp only [hcl]
 refine gChk (by omega) (gBind (R := fun z => match z with | .inl _ => True | .inr r => False) (gFor (rk m B (2 ^ m - 1) + 1) (fun k v => v = (k : Int)) (Nat.zero_le _) rfl ?_) ?_)
 ·rintro i _ hi rfl
  refine gIte (fun h1 => ?_) fun h1 => gSome trivial
  have hi2 : i ≤ rk m B (2 ^ m - 1) := by omega
  refine gBind (R := fun z => match z with | .inl _ => True | .inr r => False) (gLoop (fun v => ∃ j : Nat, v = (j : Int) ∧ i ≤ j) (fun v => (rk m B (2 ^ m - 1) + 1 - v).toNat) ⟨i, rfl, Nat.le_refl _⟩ ?_) ?_
  ·rintro _ ⟨j, rfl, hij⟩
   refine gChk (by omega) (gIte (fun h2 => gChk (by omega) (gIte (fun q => ?_) fun _ => gChk (by omega) (gSome ⟨⟨j + 1, by omega, by omega⟩, by show (((rk m B (2 ^ m - 1) : Nat) : Int) + 1 - ((j : Int) + 1)).toNat < (((rk m B (2 ^ m - 1) : Nat) : Int) + 1 - (j : Int)).toNat; omega⟩)) ) fun _ => gSome trivial)
   exfalso
   have hE : 2 ^ m - 1 < 2 ^ 8 := by have := pow_le8 h8; omega
   have := hM.rkF.heavy 8 (2 ^ m - 1) (cnt_le 8 _) hE i j hij (by omega)
   rw [toNat_nat, toNat_nat, lev_get (by omega), lev_get (by omega), hM.lev_W, hM.lev_W] at q
   omega
  ·rintro (u | rr) hz
   ·exact gChk (by omega) (gSome ⟨by omega, by omega⟩)
   ·exact hz.elim
 ·rintro (u | rr) hz
  ·exact gSome rfl
  ·exact hz.elim
end Go.SH
