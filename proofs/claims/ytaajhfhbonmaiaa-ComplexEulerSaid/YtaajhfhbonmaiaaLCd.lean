/-
  The statement ComplexEuler as a plain law: Euler's number of the dual, the link, the law. Conditions: lists are no longer than 2^63 - 1.
-/
import Derived.Test.YtaajhfhbonmaiaaLCc
set_option linter.unusedSimpArgs false
set_option linter.unusedVariables false
namespace Go.SH
open Go Go.AX

theorem sumN_rev : ∀ (n : Nat) (g : Nat → Int), sumN n (fun i => g (n - (i + 1))) = sumN n g
  | 0, _ => rfl
  | n + 1, g => by
    rw [show n + 1 = 1 + n by omega, sumN_split]
    have e : sumN n (fun i => g (1 + n - (1 + i + 1))) = sumN n g := by
      rw [← sumN_rev n g]
      exact sumN_congr fun i _ => by congr 1; omega
    rw [e, show 1 + n = n + 1 by omega]
    simp only [sumN, Int.zero_add]
    rw [Int.add_comm]; rfl
theorem cpl_val' {m s : Nat} (h : s < 2 ^ m) : cpl m s = 2 ^ m - (s + 1) := by
  apply Nat.eq_of_testBit_eq; intro i
  rw [cpl_bit, Nat.testBit_two_pow_sub_succ h]
theorem sumN_cpl (m : Nat) (g : Nat → Int) : sumN (2 ^ m) (fun s => g (cpl m s)) = sumN (2 ^ m) g := by
  rw [← sumN_rev (2 ^ m) g]
  exact sumN_congr fun s hs => by rw [cpl_val' hs]
theorem alt_all : ∀ m : Fin 9, m.val ≠ 0 → sumN (2 ^ m.val) (fun s => sg (cnt m.val s)) = 0 := of_decide_eq_true (by kernel_rfl)
theorem eul_all {m : Nat} (L : List Nat) : eul m L = sumN (2 ^ m) (fun s => if Face L s then sg (cnt m s) else 0) := by
  unfold eul
  have e : ∀ k, k < dimL m L + 1 → sg k * (fN m L k : Int) = sumN (2 ^ m) (fun s => if k = cnt m s then (if Face L s then sg (cnt m s) else 0) else 0) := fun k _ => by
    unfold fN facesL
    rw [List.countP_filter, ← Cx.f_zero.sumN_countP', ← sumN_mul]
    refine sumN_congr fun s _ => ?_
    by_cases c : cnt m s = k
    · by_cases f : Face L s
      · rw [if_pos (by simp [c, f]), if_pos c.symm, if_pos f, c, Int.mul_one]
      · rw [if_neg (by simp [f]), if_pos c.symm, if_neg f, Int.mul_zero]
    · rw [if_neg (by simp [c]), if_neg (fun x => c x.symm), Int.mul_zero]
  rw [sumN_congr e, sumN_swap]
  refine sumN_congr fun s _ => ?_
  by_cases f : Face L s
  · exact sumN_single _ _ _ (by have := face_cnt (m := m) f; omega)
  · rw [if_neg f, sumN_congr (h := fun _ => (0 : Int)) fun k _ => by split <;> rfl, sumN_zero]
theorem sg_add {a b c : Nat} (h : a + b = c) : sg a = sg c * sg b := by
  unfold sg
  rcases Nat.mod_two_eq_zero_or_one c with p | p <;> rcases Nat.mod_two_eq_zero_or_one b with q | q
  · rw [if_pos (by omega), if_pos p, if_pos q]; rfl
  · rw [if_neg (by omega), if_pos p, if_neg (by omega)]; rfl
  · rw [if_neg (by omega), if_neg (by omega), if_pos q]; rfl
  · rw [if_pos (by omega), if_neg (by omega), if_neg (by omega)]; rfl
/-- Euler's number of a complex whose faces are the complements of what is no face. -/
theorem eul_dual {m : Nat} (h8 : m ≤ 8) (h0 : m ≠ 0) {L A : List Nat} (hA : ∀ s, s < 2 ^ m → (Face A s ↔ ¬ Face L (cpl m s))) : eul m A = - (sg m * eul m L) := by
  rw [eul_all A, ← sumN_cpl m, eul_all L]
  have e : ∀ s, s < 2 ^ m → (if Face A (cpl m s) then sg (cnt m (cpl m s)) else 0) = sg m * sg (cnt m s) + - (sg m * (if Face L s then sg (cnt m s) else 0)) := fun s hs => by
    have h1 := hA (cpl m s) (cpl_lt _ _)
    rw [cpl_cpl hs] at h1
    have h2 := sg_add (cpl_cnt (m := m) (s := s))
    by_cases f : Face L s
    · rw [if_neg (fun x => h1.1 x f), if_pos f]; omega
    · rw [if_pos (h1.2 f), if_neg f, h2, Int.mul_zero]; omega
  rw [sumN_congr e, sumN_add, sumN_mul, sumN_neg, sumN_mul, alt_all ⟨m, by omega⟩ h0, Int.mul_zero, Int.zero_add]

/-! ### the link -/
theorem CLink_ok {m : Nat} {L : List Nat} (h : Cx m L) (a : Int) : complex_Link m (cs L) a = some ([], 1) ∨ ∃ (s : Nat) (K : List Nat), a = (s : Int) ∧ complex_Link m (cs L) a = some (cs K, 0) ∧ Cx m K ∧ ∀ t, Face K t ↔ t &&& s = 0 ∧ Face L (t ||| s) := by
  have h8 := h.m8
  have hlen := h.len
  by_cases ha : a < 0
  · left
    refine Gets.eq ?_
    unfold complex_Link
    refine gBindE h.check (gIte (fun q => absurd rfl q) fun _ => ?_)
    refine gBind (R := fun o => o = []) (gFor L.length (fun k (x : List Int × Int) => x.2 = (k : Int) ∧ x.1 = []) (Nat.zero_le _) ⟨rfl, rfl⟩ ?_) ?_
    · rintro k ⟨_, _⟩ hk ⟨rfl, rfl⟩
      simp only [cs_len]
      exact gIte (fun h1 => gChk (by omega) (gIte (fun q => absurd q.1 (by omega)) fun _ => gSome ⟨by omega, by simp, rfl⟩)) fun _ => gSome rfl
    · rintro o rfl
      exact gIte (fun _ => gSome rfl) fun q => absurd rfl q
  · obtain ⟨s, rfl⟩ : ∃ s : Nat, a = (s : Int) := ⟨a.toNat, by omega⟩
    have main : ∀ R : List Int × Int → Prop, Gets (if ((cs ((L.filter fun f => decide (Inc s f)).map fun f => dif f s)).length : Int) = 0 then some ([], 1) else chk ((cs ((L.filter fun f => decide (Inc s f)).map fun f => dif f s)).length < 4611686018427387904) (some (sortL (cs ((L.filter fun f => decide (Inc s f)).map fun f => dif f s)), 0))) R → Gets (complex_Link m (cs L) (s : Int)) R := fun R hR => by
      unfold complex_Link
      refine gBindE h.check (gIte (fun q => absurd rfl q) fun _ => ?_)
      refine gBind (R := fun o => o = cs ((L.filter fun f => decide (Inc s f)).map fun f => dif f s)) (gFor L.length (fun k (x : List Int × Int) => x.2 = (k : Int) ∧ x.1 = cs (((L.take k).filter fun f => decide (Inc s f)).map fun f => dif f s)) (Nat.zero_le _) ⟨rfl, rfl⟩ ?_) fun o ho => by rw [ho]; exact hR
      rintro k ⟨_, _⟩ hk ⟨rfl, rfl⟩
      simp only [cs_len, cs_get, toNat_nat, and_nat, dif_nat]
      refine gIte (fun h1 => gChk (by omega) ?_) fun h1 => gSome (by rw [List.take_of_length_le (by omega)])
      have hk' : k < L.length := by omega
      have etake : L.take (k + 1) = L.take k ++ [L.getD k 0] := by
        rw [List.take_add_one, List.getD_eq_getElem?_getD, List.getElem?_eq_getElem hk']; rfl
      have hle := List.length_filter_le (fun f => decide (Inc s f)) (L.take k)
      have htl := List.length_take_le k L
      refine gIte (fun q => gChk (by rw [List.length_append, cs_len, List.length_map]; simp only [List.length_cons, List.length_nil]; omega) (gSome ⟨hk', by simp, ?_⟩)) fun q => gSome ⟨hk', by simp, ?_⟩
      · have hin : Inc s (L.getD k 0) := (sub_iff_and _ _).1 (by rw [Nat.and_comm]; omega)
        show cs _ ++ [_] = _
        rw [cs_app, etake, List.filter_append, List.filter_cons, if_pos (by simpa using hin), List.map_append]; rfl
      · have hin : ¬ Inc s (L.getD k 0) := fun c => q ⟨by omega, by rw [Nat.and_comm, (sub_iff_and _ _).2 c]⟩
        show cs _ = _
        rw [etake, List.filter_append, List.filter_cons, if_neg (by simpa using hin)]; simp
    have hmem : ∀ f, f ∈ (L.filter fun f => decide (Inc s f)) ↔ f ∈ L ∧ Inc s f := fun f => by simp
    have hnd : (L.filter fun f => decide (Inc s f)).Nodup := (fam_sub h.toFam _).nodup
    have hl2 := List.length_filter_le (fun f => decide (Inc s f)) L
    generalize (L.filter fun f => decide (Inc s f)) = N at *
    have back : ∀ f, Inc s f → dif f s ||| s = f := fun f hf => by
      apply Nat.eq_of_testBit_eq; intro i
      rw [Nat.testBit_or, testBit_dif]
      cases hs : s.testBit i with
      | true => rw [hf i hs]; rfl
      | false => simp
    by_cases hN : N = []
    · left
      exact Gets.eq (main _ (gIte (fun _ => gSome rfl) fun q => absurd (by rw [hN]; rfl) q))
    · right
      obtain ⟨K, k1, k2, k3⟩ := sortS h8 (N.map fun f => dif f s) (fun x hx => by
        obtain ⟨b, hb, rfl⟩ := List.mem_map.1 hx
        exact dif_lt (h.lt b ((hmem b).1 hb).1)) (List.pairwise_map.2 (hnd.imp_of_mem fun ha hb hne q => hne (by
          rw [← back _ ((hmem _).1 ha).2, ← back _ ((hmem _).1 hb).2, q])))
      have hpos : 0 < N.length := List.length_pos_iff.2 hN
      have k4 : ∀ x, x ∈ K ↔ ∃ f, f ∈ L ∧ Inc s f ∧ x = dif f s := fun x => by
        rw [k3, List.mem_map]
        exact ⟨fun ⟨f, h1, h2⟩ => ⟨f, ((hmem f).1 h1).1, ((hmem f).1 h1).2, h2.symm⟩, fun ⟨f, h1, h2, h3⟩ => ⟨f, (hmem f).2 ⟨h1, h2⟩, h3.symm⟩⟩
      refine ⟨s, K, rfl, Gets.eq (main _ (gIte (fun q => absurd q (by simp; omega)) fun _ => gChk (by simp; omega) (by rw [k1]; exact gSome rfl))), ⟨k2, fun q => ?_, fun x hx y hy hi => ?_⟩, fun t => ?_⟩
      · obtain ⟨b, hb⟩ := List.exists_mem_of_length_pos hpos
        have := (k3 (dif b s)).2 (List.mem_map.2 ⟨b, hb, rfl⟩)
        rw [q] at this; simp at this
      · obtain ⟨f, f1, f2, rfl⟩ := (k4 x).1 hx
        obtain ⟨g, g1, g2, rfl⟩ := (k4 y).1 hy
        have : Inc f g := fun i hi2 => by
          cases hs : s.testBit i with
          | true => exact g2 i hs
          | false =>
            have := hi i (by rw [testBit_dif, hi2, hs]; rfl)
            rw [testBit_dif, Bool.and_eq_true] at this
            exact this.1
        rw [h.anti f f1 g g1 this]
      · constructor
        · rintro ⟨x, hx, hi⟩
          obtain ⟨f, f1, f2, rfl⟩ := (k4 x).1 hx
          refine ⟨(disj_iff _ _).2 fun i ht => ?_, f, f1, inc_or (hi.trans (inc_dif _ _)) f2⟩
          have := hi i ht
          rw [testBit_dif, Bool.and_eq_true, Bool.not_eq_true'] at this
          exact this.2
        · rintro ⟨hd, f, f1, f2⟩
          refine ⟨_, (k4 _).2 ⟨f, f1, (inc_or_r t s).trans f2, rfl⟩, fun i ht => ?_⟩
          rw [testBit_dif, f2 i (inc_or_l t s i ht), (disj_iff _ _).1 hd i ht]; rfl
end Go.SH
