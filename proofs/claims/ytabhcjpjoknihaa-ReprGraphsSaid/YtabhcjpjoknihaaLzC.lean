/-
  The law ReprGraphs: graphs are regular, and so are their duals. Conditions: none.
-/
import Derived.Test.YtabhcjpjoknihaaLzB
import Derived.Test.YtabhcjpjoknihaaEKr
import Derived.Test.YtabhcjpjoknihaaSkReprGraphs
set_option linter.unusedSimpArgs false
set_option linter.unusedVariables false
set_option linter.unusedSectionVars false
namespace Go.SH
open Go Go.AX

def l35 : List Int := [7, 11, 13, 14, 19, 21, 22, 25, 26, 28, 35, 37, 38, 41, 42, 44, 49, 50, 52, 56, 67, 69, 70, 73, 74, 76, 81, 82, 84, 88, 97, 98, 100, 104, 112]
theorem choose73 : sets_Choose 7 3 = some (l35, 0) := E_sets_Choose _ _ _ (by kernel_rfl)
theorem fano_named : kinds_Named [102, 97, 110, 111] = some (7, cs fanoB, 0) := by
  unfold kinds_Named
  rw [if_pos rfl]
  have hf : (fun x0 => kinds_without_1 x0 [11, 22, 44, 88, 49, 98, 69]) = fun x0 => some (decide (x0 ∈ ([11, 22, 44, 88, 49, 98, 69] : List Int))) := funext fun x => by
    unfold kinds_without_1
    rw [slices_Contains_spec _ _ (by simp)]
    rfl
  have hd : delL (fun x0 => some (decide (x0 ∈ ([11, 22, 44, 88, 49, 98, 69] : List Int)))) l35 = cs fanoB := by decide +kernel
  have hw : kinds_without 3 7 [11, 22, 44, 88, 49, 98, 69] = some (7, cs fanoB) := by
    unfold kinds_without
    rw [choose73, Option.bind_some, hf]
    show chk (DefL _ l35) (chk ((delL _ l35).length ≤ 8796093022208) (some (7, delL _ l35))) = _
    rw [chk_pos ⟨by decide, fun x _ => ⟨_, rfl⟩⟩, hd, chk_pos (by decide)]
  rw [hw]
  rfl
theorem uni24 : repr_uniform 2 4 = some (((4 : Nat) : Int), cs u24) := by
  unfold repr_uniform
  have : kinds_Uniform 2 4 = some (((4 : Nat) : Int), cs u24, 0) := E_kinds_Uniform _ _ _ (by kernel_rfl)
  rw [this]
  rfl
theorem u24_mat : Mat 4 u24 := by
  have : u24 = uniL 4 2 := by decide +kernel
  rw [this]
  exact uni_mat (by omega) (by omega)
theorem fano_fam : Fam 7 fanoB := ⟨by omega, by decide +kernel, fun i j h1 h2 => (by decide +kernel : ∀ j, j < fanoB.length → ∀ i, i < j → fanoB.getD i 0 < fanoB.getD j 0) j h2 i h1⟩
theorem fanoD_fam : Fam 7 fanoD := ⟨by omega, by decide +kernel, fun i j h1 h2 => (by decide +kernel : ∀ j, j < fanoD.length → ∀ i, i < j → fanoD.getD i 0 < fanoD.getD j 0) j h2 i h1⟩
theorem fano_mat : Mat 7 fanoB where
  toFam := fano_fam
  ne := by decide
  eqc := by decide +kernel
  ex := fun a ha b hb x hx hxb => by
    have hx7 := bit_lt (fano_fam.lt a ha) hx
    have q := (by decide +kernel : ∀ a, a ∈ fanoB → ∀ b, b ∈ fanoB → ∀ x, x < 7 → a.testBit x = true → b.testBit x = false → ((List.range 7).any fun y => b.testBit y && !a.testBit y && decide (dif a (2 ^ x) ||| 2 ^ y ∈ fanoB)) = true) a ha b hb x hx7 hx hxb
    obtain ⟨y, _, hy⟩ := List.any_eq_true.1 q
    simp only [Bool.and_eq_true, Bool.not_eq_true', decide_eq_true_eq] at hy
    exact ⟨y, hy.1.1, hy.1.2, hy.2⟩
theorem fanoD_mem (x : Nat) : x ∈ fanoD ↔ ∃ b, b ∈ fanoB ∧ x = cpl 7 b := by
  rcases Nat.lt_or_ge x 128 with c | c
  · exact (by decide +kernel : ∀ x, x < 128 → (x ∈ fanoD ↔ ∃ b, b ∈ fanoB ∧ x = cpl 7 b)) x c
  · constructor
    · intro h
      have := fanoD_fam.lt x h
      omega
    · rintro ⟨b, _, rfl⟩
      have := cpl_lt 7 b
      omega
theorem fanoD_mat : Mat 7 fanoD := fano_mat.dual fanoD_fam fanoD_mem
theorem fano_dual : minors_Dual 7 (cs fanoB) = some (((7 : Nat) : Int), cs fanoD, 0) := by
  obtain ⟨K, k1, k2, k3⟩ := fano_mat.Dual_ok
  have e : K = fanoD := Fam.ext k2.toFam fanoD_fam fun s => by rw [k3, fanoD_mem]
  rw [e] at k1
  exact k1
theorem duaF : Dua 7 (rk 7 fanoB) (rk 7 fanoD) := fano_mat.dua fanoD_mat fanoD_mem
theorem duaD : Dua 7 (rk 7 fanoD) (rk 7 fanoB) := duaF.symm fano_mat.rk_zero
theorem duaU : Dua 4 (rk 4 u24) (rk 4 u24) := by
  have : ∀ s, s < 16 → rk 4 u24 s + rk 4 u24 15 = cnt 4 s + rk 4 u24 (cpl 4 s) := by decide +kernel
  exact this
/-- None of the three is a minor. -/
def NoM (m : Nat) (R : Nat → Nat) : Prop := ¬ Emb m 4 R (rk 4 u24) ∧ ¬ Emb m 7 R (rk 7 fanoB) ∧ ¬ Emb m 7 R (rk 7 fanoD)
theorem has_none {m : Nat} {K : List Nat} (h : Mat m K) (hn : NoM m (rk m K)) : repr_has (m : Int) (cs K) [(((4 : Nat) : Int), cs u24), (((7 : Nat) : Int), cs fanoB), (((7 : Nat) : Int), cs fanoD)] = some false := by
  refine Gets.eq ?_
  have key : ∀ v, v < 3 → Gets (same_Minor (m : Int) (cs K) (([(((4 : Nat) : Int), cs u24), (((7 : Nat) : Int), cs fanoB), (((7 : Nat) : Int), cs fanoD)] : List (Int × List Int)).getD v (0, [])).1 (([(((4 : Nat) : Int), cs u24), (((7 : Nat) : Int), cs fanoB), (((7 : Nat) : Int), cs fanoD)] : List (Int × List Int)).getD v (0, [])).2) (fun r => r.2.2 ≠ 0) := fun v hv => by
    rcases (show v = 0 ∨ v = 1 ∨ v = 2 by omega) with rfl | rfl | rfl
    · refine (Minor_ok h u24_mat).mono fun r hr => ?_
      rcases hr with ⟨_, q⟩ | ⟨q, _⟩
      · exact absurd q hn.1
      · rw [q]; decide
    · refine (Minor_ok h fano_mat).mono fun r hr => ?_
      rcases hr with ⟨_, q⟩ | ⟨q, _⟩
      · exact absurd q hn.2.1
      · rw [q]; decide
    · refine (Minor_ok h fanoD_mat).mono fun r hr => ?_
      rcases hr with ⟨_, q⟩ | ⟨q, _⟩
      · exact absurd q hn.2.2
      · rw [q]; decide
  unfold repr_has
  refine gBind (R := fun z => z = Sum.inl ()) (gFor 3 (fun v (x : Int) => x = (v : Int)) (Nat.zero_le _) rfl ?_) ?_
  · rintro v _ hv rfl
    simp only [toNat_nat, List.length_cons, List.length_nil]
    refine gIte (fun c => gChk (by omega) ?_) fun c => gSome rfl
    exact gBind (key v (by omega)) fun r hr => gIte (fun q => absurd q hr) fun _ => gSome ⟨by omega, by simp⟩
  · rintro _ rfl
    exact gSome rfl
theorem Regular_ok {m : Nat} {K : List Nat} (h : Mat m K) (hn : NoM m (rk m K)) : repr_Regular (m : Int) (cs K) = some (true, 0) := by
  refine Gets.eq ?_
  unfold repr_Regular
  refine gBindE h.check (gIte (fun q => absurd rfl q) fun _ => ?_)
  refine gBindE fano_named (gBindE fano_dual (gBindE uni24 (gBindE (has_none h hn) (gSome (by simp)))))
theorem rep1 : repr_Represent 1 [1] 2 = some (2, 1, [[1]], 0) := E_repr_Represent _ _ _ _ (by kernel_rfl)
theorem NoM.dual {m : Nat} {K K' : List Nat} (h : Mat m K) (h' : Mat m K') (hm : ∀ x, x ∈ K' ↔ ∃ b, b ∈ K ∧ x = cpl m b) (hn : NoM m (rk m K)) : NoM m (rk m K') := by
  have d : Dua m (rk m K') (rk m K) := (h.dua h' hm).symm h.rk_zero
  have mono : ∀ s t, Inc s t → rk m K' s ≤ rk m K' t := fun s t q => h'.rk_mono q
  exact ⟨fun q => hn.1 (q.dual d duaU mono), fun q => hn.2.2 (q.dual d duaF mono), fun q => hn.2.1 (q.dual d duaD mono)⟩
theorem rotakeep_ReprGraphs_law (N : Int) (E : List (Int × Int)) : rotakeep_ReprGraphs N E = some true := by
  refine Gets.eq ?_
  unfold rotakeep_ReprGraphs
  refine gBindE rep1 (gIte (fun _ => ?_) fun q => absurd (by simp) q)
  refine gBindE (Rows_spec _ _) (gIte (fun q => absurd (by simp) q) fun _ => ?_)
  by_cases hG : CG N E
  rotate_left
  · obtain ⟨e, he, he1, he2⟩ := CheckGraph_spec N E
    have e1 : e ≠ 0 := fun q => hG (he2.1 q)
    have : kinds_Graphic N E = some (0, [], e) := by
      unfold kinds_Graphic
      rw [he, Option.bind_some, if_pos e1]
    exact gBindE this (gIte (fun _ => gSome rfl) fun q => absurd e1 q)
  obtain ⟨n, rfl⟩ := Int.eq_ofNat_of_zero_le (show 0 ≤ N by have := hG.n1; omega)
  refine gBind (Graphic_spec hG) ?_
  rintro _ ⟨K, rfl, hF, hK⟩
  refine gIte (fun q => absurd rfl q) fun _ => ?_
  obtain ⟨hM, hI⟩ := graph_mat hG hF hK
  have hn : NoM E.length (rk E.length K) := by
    have two3 : (1 : Fin 3) + 1 ≠ 0 := by decide
    refine ⟨fun q => ?_, fun q => ?_, fun q => ?_⟩
    · obtain ⟨R, hR⟩ := rel_of_emb hM (hI 2 fld2) q
      exact no_u24 hR
    · obtain ⟨R, hR⟩ := rel_of_emb hM (hI 3 fld3) q
      exact no_fano fld3 two3 hR
    · obtain ⟨R, hR⟩ := rel_of_emb hM (hI 3 fld3) q
      exact no_fanoD fld3 two3 hR
  obtain ⟨K', k1, k2, k3⟩ := hM.Dual_ok
  refine gBindE k1 (gBindE (Regular_ok hM hn) (gBindE (Regular_ok k2 (hn.dual hM k2 k3)) (gSome (by simp))))
end Go.SH
