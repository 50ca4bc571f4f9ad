/-
  The statement ComplexEuler as a plain law: the numbers f, h, Euler's number, the dual, the link. Conditions: lists are no longer than 2^63 - 1.
-/
import Derived.Test.YtaajhfhbonmaiaaLCb
import Derived.Test.YtaajhfhbonmaiaaLP
import Derived.Test.YtaajhfhbonmaiaaAxP
import Derived.Test.YtaajhfhbonmaiaaSkComplexEuler
set_option linter.unusedSimpArgs false
set_option linter.unusedVariables false
namespace Go.SH
open Go Go.AX

theorem sortS {m : Nat} (h8 : m ≤ 8) (N : List Nat) (hlt : ∀ s, s ∈ N → s < 2 ^ m) (hnd : N.Nodup) : ∃ K, sortL (cs N) = cs K ∧ Fam m K ∧ ∀ s, s ∈ K ↔ s ∈ N := by
  have hperm : (sortL (cs N)).Perm (cs N) := List.mergeSort_perm _ _
  have hso : (sortL (cs N)).Pairwise (· ≤ ·) := by
    have := List.pairwise_mergeSort (le := fun x y : Int => decide (x ≤ y)) (fun a b c h1 h2 => by simp only [decide_eq_true_eq] at *; omega) (fun a b => by simp only [Bool.or_eq_true, decide_eq_true_eq]; omega) (cs N)
    exact this.imp fun h => of_decide_eq_true h
  have hnd2 : (sortL (cs N)).Nodup := hperm.nodup_iff.2 (List.pairwise_map.2 (hnd.imp fun h e => h (Int.ofNat.inj e)))
  have hri : (sortL (cs N)).Pairwise (· < ·) := (hso.and hnd2).imp fun h => by have := h.1; have := h.2; omega
  have hmem : ∀ y, y ∈ sortL (cs N) ↔ y ∈ cs N := fun y => hperm.mem_iff
  generalize sortL (cs N) = Z at *
  have hcs : Z = cs (Z.map Int.toNat) := cs_of fun k hk => by
    have : Z.getD k 0 ∈ Z := by rw [List.getD_eq_getElem?_getD, List.getElem?_eq_getElem hk]; exact List.getElem_mem hk
    obtain ⟨a, _, e⟩ := List.mem_map.1 (show Z.getD k 0 ∈ N.map Nat.cast from (hmem _).1 this)
    omega
  have hK : ∀ s : Nat, s ∈ Z.map Int.toNat ↔ s ∈ N := fun s => by rw [← cs_mem, ← hcs, hmem, cs_mem]
  refine ⟨Z.map Int.toNat, hcs, ⟨h8, fun s hs => hlt s ((hK s).1 hs), fun i j hij hj => ?_⟩, hK⟩
  rw [List.pairwise_iff_getElem] at hri
  have hj' : j < Z.length := by simpa using hj
  have h1 := hri i j (by omega) hj' hij
  have g : ∀ k (hk : k < Z.length), ((Z.map Int.toNat).getD k 0 : Int) = Z[k] := fun k hk => by
    have := cs_get (Z.map Int.toNat) k
    rw [← hcs] at this
    rw [← this, List.getD_eq_getElem?_getD, List.getElem?_eq_getElem hk]; rfl
  have h2 := g i (by omega)
  have h3 := g j hj'
  omega
theorem fam_sub {m : Nat} {L : List Nat} (h : Fam m L) (p : Nat → Bool) : Fam m (L.filter p) := by
  refine ⟨h.m8, fun s hs => h.lt s (List.mem_filter.1 hs).1, fun i j hij hj => ?_⟩
  have h1 : L.Pairwise (· < ·) := by
    rw [List.pairwise_iff_getElem]
    intro i j hi hj hij
    have := h.rise i j hij hj
    simpa [List.getD_eq_getElem?_getD, List.getElem?_eq_getElem hi, List.getElem?_eq_getElem hj] using this
  have h2 := List.Pairwise.filter p h1
  rw [List.pairwise_iff_getElem] at h2
  have := h2 i j (by omega) hj hij
  simpa [List.getD_eq_getElem?_getD, List.getElem?_eq_getElem (show i < (L.filter p).length by omega), List.getElem?_eq_getElem hj] using this
theorem Fam.nodup {m : Nat} {L : List Nat} (h : Fam m L) : L.Nodup := by
  unfold List.Nodup
  rw [List.pairwise_iff_getElem]
  intro i j hi hj hij
  have := h.rise i j hij hj
  simp [List.getD_eq_getElem?_getD, List.getElem?_eq_getElem hi, List.getElem?_eq_getElem hj] at this
  omega

/-! ### greatest sets -/
def mostL (L : List Nat) : List Nat := L.filter fun s => decide (∀ t, t ∈ L → Inc s t → t = s)
theorem mem_mostL {L : List Nat} {s : Nat} : s ∈ mostL L ↔ s ∈ L ∧ ∀ t, t ∈ L → Inc s t → t = s := by
  unfold mostL; rw [List.mem_filter, decide_eq_true_eq]
theorem Most_ok {m : Nat} {L : List Nat} (hL : Fam m L) : sets_Most m (cs L) = some (cs (mostL L), 0) := by
  refine Gets.eq ?_
  have hlen := hL.len
  have hfam : sets_Family m (cs L) = some 0 := by
    obtain ⟨r, h1, h2⟩ := sets_Family_spec m (cs L) (by simp; omega)
    rcases h2 with ⟨rfl, _⟩ | ⟨_, hn⟩
    · exact h1
    · exact absurd ⟨m, L, rfl, rfl, hL⟩ hn
  unfold sets_Most mostL
  refine gBindE hfam (gIte (fun q => absurd rfl q) fun _ => ?_)
  refine gBind (R := fun o => o = cs (L.filter fun s => decide (∀ t, t ∈ L → Inc s t → t = s))) (gFor L.length (fun k (x : List Int × Int) => x.2 = (k : Int) ∧ x.1 = cs ((L.take k).filter fun s => decide (∀ t, t ∈ L → Inc s t → t = s))) (Nat.zero_le _) ⟨rfl, rfl⟩ ?_) fun o ho => gSome (by rw [ho])
  rintro k ⟨_, _⟩ hk ⟨rfl, rfl⟩
  simp only [cs_len, cs_get, toNat_nat]
  refine gIte (fun h1 => gChk (by omega) ?_) fun h1 => gSome (by rw [List.take_of_length_le (by omega)])
  have hk' : k < L.length := by omega
  have etake : L.take (k + 1) = L.take k ++ [L.getD k 0] := by
    rw [List.take_add_one, List.getD_eq_getElem?_getD, List.getElem?_eq_getElem hk']; rfl
  have hle : ((L.take k).filter fun s => decide (∀ t, t ∈ L → Inc s t → t = s)).length ≤ 256 := by
    have := List.length_filter_le (fun s => decide (∀ t, t ∈ L → Inc s t → t = s)) (L.take k)
    have := List.length_take_le k L
    omega
  refine gBind (ContainsFuncC (p := fun t => decide (t ≠ L.getD k 0 ∧ Inc (L.getD k 0) t)) (by omega) fun t ht => ?_) fun r hr => gIte (fun q => gChk (by rw [List.length_append, cs_len]; simp only [List.length_cons, List.length_nil]; omega) (gSome ⟨hk', by simp, ?_⟩)) fun q => gSome ⟨hk', by simp, ?_⟩
  · unfold sets_Most_1
    rw [and_nat]
    congr 1
    rw [Bool.eq_iff_iff, decide_eq_true_eq, decide_eq_true_eq, ← sub_iff_and, Nat.and_comm]
    omega
  · show _ = cs _
    rw [etake, List.filter_append, cs_app]
    have : decide (∀ t, t ∈ L → Inc (L.getD k 0) t → t = L.getD k 0) = true := by
      rw [decide_eq_true_eq]
      intro t ht hi
      rcases Nat.decEq t (L.getD k 0) with e | e
      · exact absurd (hr.2 ⟨t, ht, decide_eq_true ⟨e, hi⟩⟩) q
      · exact e
    rw [List.filter_cons, if_pos this]; rfl
  · show _ = cs _
    rw [etake, List.filter_append]
    have : ¬ decide (∀ t, t ∈ L → Inc (L.getD k 0) t → t = L.getD k 0) = true := by
      rw [decide_eq_true_eq]
      intro hall
      obtain ⟨t, ht, hp⟩ := hr.1 (by simpa using q)
      have hp := of_decide_eq_true hp
      exact hp.1 (hall t ht hp.2)
    rw [List.filter_cons, if_neg this]; simp
theorem most_in {m : Nat} {L : List Nat} (hL : Fam m L) : ∀ (d s : Nat), m - cnt m s ≤ d → s ∈ L → ∃ t, t ∈ mostL L ∧ Inc s t := by
  intro d
  induction d with
  | zero =>
    intro s hd hs
    refine ⟨s, mem_mostL.2 ⟨hs, fun t ht hi => ?_⟩, Inc.refl s⟩
    have := cnt_le m t
    exact (inc_eq_of_cnt hi (hL.lt t ht) (by omega)).symm
  | succ d ih =>
    intro s hd hs
    rcases Classical.em (∃ t, t ∈ L ∧ Inc s t ∧ t ≠ s) with ⟨t, h1, h2, h3⟩ | q
    · have hlt : cnt m s < cnt m t := by
        rcases Nat.lt_or_ge (cnt m s) (cnt m t) with c | c
        · exact c
        · exact absurd (inc_eq_of_cnt h2 (hL.lt t h1) c).symm h3
      have := cnt_le m t
      obtain ⟨u, u1, u2⟩ := ih t (by omega) h1
      exact ⟨u, u1, h2.trans u2⟩
    · refine ⟨s, mem_mostL.2 ⟨hs, fun t ht hi => ?_⟩, Inc.refl s⟩
      rcases Nat.decEq t s with e | e
      · exact absurd ⟨t, ht, hi, e⟩ q
      · exact e
theorem most_cx {m : Nat} {L : List Nat} (hL : Fam m L) (hne : L ≠ []) : Cx m (mostL L) := by
  refine ⟨fam_sub hL _, fun e => ?_, fun s hs t ht hi => ((mem_mostL.1 hs).2 t (mem_mostL.1 ht).1 hi).symm⟩
  cases hq : L with
  | nil => exact hne hq
  | cons a r =>
    obtain ⟨t, h1, _⟩ := most_in hL _ a (Nat.le_refl _) (by rw [hq]; simp)
    rw [e] at h1; simp at h1
theorem most_face {m : Nat} {L : List Nat} (hL : Fam m L) {s : Nat} : Face (mostL L) s ↔ ∃ t, t ∈ L ∧ Inc s t := by
  constructor
  · rintro ⟨f, h1, h2⟩; exact ⟨f, (mem_mostL.1 h1).1, h2⟩
  · rintro ⟨t, h1, h2⟩
    obtain ⟨u, u1, u2⟩ := most_in hL _ t (Nat.le_refl _) h1
    exact ⟨u, u1, h2.trans u2⟩

/-! ### the dual -/
theorem CDual_ok {m : Nat} {L : List Nat} (h : Cx m L) : (complex_Dual m (cs L) = some ([], 5) ∧ ∀ s, s < 2 ^ m → Face L s) ∨ ∃ K, complex_Dual m (cs L) = some (cs (mostL K), 0) ∧ Fam m K ∧ K ≠ [] ∧ ∀ s, s ∈ K ↔ s < 2 ^ m ∧ ¬ Face L (cpl m s) := by
  have h8 := h.m8
  have h256 := pow_le8 h8
  have hpos : 0 < 2 ^ m := Nat.pow_pos (by omega)
  have hff := faces_fam h8 L
  have hfl := hff.len
  have e : (((2 ^ m : Nat) : Int) - 1) = ((2 ^ m - 1 : Nat) : Int) := by omega
  have loop : ∀ k, k ≤ 2 ^ m → True := fun _ _ => trivial
  have hNl : ((List.range (2 ^ m)).filter fun s => decide (¬ Face L s)).length ≤ 256 := by
    have := List.length_filter_le (fun s => decide (¬ Face L s)) (List.range (2 ^ m))
    rw [List.length_range] at this; omega
  have main : ∀ R : List Int × Int → Prop, Gets (if ((cs (((List.range (2 ^ m)).filter fun s => decide (¬ Face L s)).map (cpl m))).length : Int) = 0 then some ([], 5) else chk ((cs (((List.range (2 ^ m)).filter fun s => decide (¬ Face L s)).map (cpl m))).length < 4611686018427387904) ((sets_Most m (sortL (cs (((List.range (2 ^ m)).filter fun s => decide (¬ Face L s)).map (cpl m))))).bind fun y3 => some (y3.1, y3.2))) R → Gets (complex_Dual m (cs L)) R := fun R hR => by
    unfold complex_Dual
    refine gBindE h.check (gIte (fun q => absurd rfl q) fun _ => gBindE (faces_ok h.toFam) ?_)
    simp only [toNat_nat, shl_nat', e]
    refine gChk (by omega) (gBind (R := fun o => o = cs (((List.range (2 ^ m)).filter fun s => decide (¬ Face L s)).map (cpl m))) (gFor (2 ^ m) (fun k (x : List Int × Int) => x.2 = (k : Int) ∧ x.1 = cs (((List.range k).filter fun s => decide (¬ Face L s)).map (cpl m))) (Nat.zero_le _) ⟨rfl, rfl⟩ ?_) fun o ho => by rw [ho]; exact hR)
    rintro k ⟨_, _⟩ hk ⟨rfl, rfl⟩
    refine gIte (fun h1 => ?_) fun h1 => gSome (by have e : k = 2 ^ m := (by omega); subst e; rfl)
    have hk' : k < 2 ^ m := by omega
    have hl1 := List.length_filter_le (fun s => decide (¬ Face L s)) (List.range k)
    rw [List.length_range] at hl1
    refine gBind (BinarySearch_spec _ _ hff.Rise (by simp; omega)) fun r hr => ?_
    rw [cs_mem, mem_facesL] at hr
    simp only [dif_nat]
    rw [List.range_succ, List.filter_append] at *
    refine gIte (fun q => gChk ⟨by omega, by omega, by rw [List.length_append, cs_len, List.length_map]; simp only [List.length_cons, List.length_nil]; omega⟩ (gSome ⟨hk', by simp, ?_⟩)) fun q => gSome ⟨hk', by simp, ?_⟩
    · have nf : ¬ Face L k := fun c => q (hr.2 ⟨hk', c⟩)
      show cs _ ++ [_] = _
      rw [cs_app, List.filter_cons, if_pos (by simpa using nf), List.map_append]; rfl
    · have nf : Face L k := (hr.1 (by simpa using q)).2
      show cs _ = _
      rw [List.filter_cons, if_neg (by simpa using nf)]; simp
  have hmemN : ∀ s, s ∈ ((List.range (2 ^ m)).filter fun s => decide (¬ Face L s)) ↔ s < 2 ^ m ∧ ¬ Face L s := fun s => by simp
  have hndN : ((List.range (2 ^ m)).filter fun s => decide (¬ Face L s)).Nodup := (filter_fam h8 (fun s => decide (¬ Face L s))).nodup
  generalize ((List.range (2 ^ m)).filter fun s => decide (¬ Face L s)) = N at *
  by_cases hN : N = []
  · left
    refine ⟨Gets.eq (main _ (gIte (fun _ => gSome rfl) fun q => absurd (by rw [hN]; rfl) q)), fun s hs => ?_⟩
    rcases Classical.em (Face L s) with c | c
    · exact c
    · have := (hmemN s).2 ⟨hs, c⟩
      rw [hN] at this; simp at this
  · right
    obtain ⟨K, k1, k2, k3⟩ := sortS h8 (N.map (cpl m)) (fun s hs => by
      obtain ⟨b, _, rfl⟩ := List.mem_map.1 hs
      exact cpl_lt m b) (List.pairwise_map.2 (hndN.imp_of_mem fun ha hb hne q => hne (by
        rw [← cpl_cpl ((hmemN _).1 ha).1, ← cpl_cpl ((hmemN _).1 hb).1, q])))
    have hlen : 0 < N.length := List.length_pos_iff.2 hN
    refine ⟨K, Gets.eq (main _ (gIte (fun q => absurd q (by simp; omega)) fun _ => gChk (by simp; omega) (by rw [k1]; exact gBindE (Most_ok k2) (gSome rfl)))), k2, fun q => ?_, fun s => ?_⟩
    · obtain ⟨a, ha⟩ := List.exists_mem_of_length_pos hlen
      have := (k3 (cpl m a)).2 (List.mem_map.2 ⟨a, ha, rfl⟩)
      rw [q] at this; simp at this
    · rw [k3, List.mem_map]
      constructor
      · rintro ⟨b, hb, rfl⟩
        obtain ⟨b1, b2⟩ := (hmemN b).1 hb
        exact ⟨cpl_lt _ _, by rw [cpl_cpl b1]; exact b2⟩
      · rintro ⟨h1, h2⟩
        exact ⟨cpl m s, (hmemN _).2 ⟨cpl_lt _ _, h2⟩, cpl_cpl h1⟩
end Go.SH
