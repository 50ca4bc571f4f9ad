/-
  Rename as it computes. Conditions: a matroid.
-/
import Derived.Test.YtdhbpoafkhojnaaLOg
import Derived.Test.YtdhbpoafkhojnaaLUq
import Derived.Test.YtdhbpoafkhojnaaSpsamec
import Derived.Test.YtdhbpoafkhojnaaSpsamer
import Derived.Test.YtdhbpoafkhojnaaSpslices
set_option linter.unusedSimpArgs false
set_option linter.unusedVariables false
namespace Go.SH
open Go Go.AX

theorem slices_Index_spec (l : List Int) (t : Int) (hl : l.length < 2 ^ 60) : Gets (slices_Index_int_int l t) (fun r => (∃ k : Nat, r = k ∧ k < l.length ∧ l.getD k 0 = t ∧ ∀ j, j < k → l.getD j 0 ≠ t) ∨ (r = -1 ∧ t ∉ l)) := by
  unfold slices_Index_int_int
  refine gBind (R := fun z => match z with | .inl _ => ∀ k, k < l.length → l.getD k 0 ≠ t | .inr r => ∃ k : Nat, r = (k : Int) ∧ k < l.length ∧ l.getD k 0 = t ∧ ∀ j, j < k → l.getD j 0 ≠ t)
    (gFor l.length (fun k v => v = (k : Int) ∧ ∀ j, j < k → l.getD j 0 ≠ t) (Nat.zero_le _) ⟨rfl, none_all⟩ ?_) ?_
  · rintro k _ hk ⟨rfl, hb⟩
    refine gIte (fun h1 => gChk (by omega) ?_) fun h1 => gSome fun j hj => hb j (by omega)
    simp only [toNat_nat]
    exact gIte (fun h2 => gSome ⟨k, rfl, by omega, h2.symm, hb⟩) fun h2 => gSome ⟨by omega, by simp, step_all hb fun e => h2 e.symm⟩
  · rintro (u | rr) hz
    · refine gSome (.inr ⟨rfl, fun h => ?_⟩)
      obtain ⟨j, hj, rfl⟩ := List.getElem_of_mem h
      exact hz j hj (by rw [List.getD_eq_getElem?_getD, List.getElem?_eq_getElem hj]; rfl)
    · exact gSome (.inl hz)
theorem slices_Contains_spec (l : List Int) (t : Int) (hl : l.length < 2 ^ 60) : slices_Contains_int_int l t = some (decide (t ∈ l)) := by
  refine Gets.eq ?_
  unfold slices_Contains_int_int
  refine gBind (slices_Index_spec l t hl) fun r hr => gSome ?_
  rcases hr with ⟨k, rfl, h1, h2, _⟩ | ⟨rfl, h⟩
  · have : t ∈ l := by
      rw [← h2, List.getD_eq_getElem?_getD, List.getElem?_eq_getElem h1]; exact List.getElem_mem h1
    simp [this]
  · simp [h]

theorem Contains_spec (l : List Int) (t : Int) (hl : l.length < 2 ^ 60) : Gets (slices_Contains_int_int l t) (fun r => r = true ↔ t ∈ l) := by
  rw [slices_Contains_spec l t hl]
  exact gSome (by simp)
section
variable {n : Nat} {B : List Nat}
theorem ren_len {p : List Nat} (hB : Mat n B) (hp : p ∈ ords n) : (ren n p B).length = B.length := by
  have hi : Iso n (rk n B) (rk n (ren n p B)) := ⟨pf p, ords_pla hp, (tr_iff hB (ren_mat hB hp).1 hp).2 rfl⟩
  exact Nat.le_antisymm (hi.symm.len (ren_mat hB hp).1 hB) (hi.len hB (ren_mat hB hp).1)
theorem renamed_spec {p : List Nat} (hB : Mat n B) (hp : p ∈ ords n) : same_renamed (n : Int) (cs B) (cs p) = some (cs (ren n p B)) := by
  have h8 := hB.m8
  have hlen := hB.toFam.len
  obtain ⟨p1, p2, p3⟩ := mem_ext.1 hp
  refine Gets.eq ?_
  unfold same_renamed
  refine gBind (R := fun r => r = cs (B.map fun b => im n n (pf p) b)) (gFor B.length (fun k (x : List Int × Int) => x.2 = (k : Int) ∧ x.1 = cs ((B.take k).map fun b => im n n (pf p) b)) (Nat.zero_le _) ⟨rfl, rfl⟩ ?_) ?_
  · rintro k ⟨_, _⟩ hk ⟨rfl, rfl⟩
    dsimp only
    simp only [cs_len, toNat_nat, cs_get]
    refine gIte (fun h1 => gChk (by omega) ?_) fun h1 => gSome (by rw [List.take_of_length_le (by omega)])
    have hk' : k < B.length := by omega
    refine gBind (moved_spec h8 (P := p) (by omega) (fun i hi => p3 _ (getD_mem hi)) (B.getD k 0)) ?_
    rintro _ rfl
    rw [p1]
    have e : cs ((B.take k).map fun b => im n n (pf p) b) ++ [((im n n (fun i => p.getD i 0) (B.getD k 0) : Nat) : Int)] = cs ((B.take (k + 1)).map fun b => im n n (pf p) b) := by
      rw [cs_app, List.take_add_one, List.map_append, List.getD_eq_getElem?_getD, List.getElem?_eq_getElem hk']; rfl
    rw [e]
    refine gChk (by rw [cs_len, List.length_map, List.length_take]; omega) (gSome ⟨hk', by simp, rfl⟩)
  · rintro _ rfl
    refine gChk (by rw [cs_len, List.length_map]; omega) (gSome ?_)
    refine sortF (m := n) (nodup_map_inj hB.toFam.nodup fun a ha b hb e => (ords_pla hp).im_inj (hB.lt a ha) (hB.lt b hb) e) (ren_fam h8 B) fun s => ?_
    rw [mem_ren, List.mem_map]
    exact ⟨fun ⟨b, b1, b2⟩ => ⟨b, b1, b2.symm⟩, fun ⟨b, b1, b2⟩ => ⟨b, b1, b2.symm⟩⟩
/-- What Rename tells. -/
theorem order_spec (p : List Int) (hp : p.length ≤ 9223372036854775807) {n : Nat} (h8 : n ≤ 8) : Gets (same_order p (n : Int)) (fun r => r = true ↔ ∃ Q, p = cs Q ∧ Q ∈ ords n) := by
  unfold same_order
  refine gIte (fun h => gSome ?_) fun h => ?_
  · refine ⟨fun z => by simp at z, ?_⟩
    rintro ⟨Q, rfl, hQ⟩
    rw [cs_len, (mem_ext.1 hQ).1] at h
    exact absurd rfl h
  have hl : p.length = n := by omega
  refine gBind (R := fun z => match z with | .inl _ => ∃ Q, p = cs Q ∧ Q ∈ ords n | .inr r => r = false ∧ ¬ ∃ Q, p = cs Q ∧ Q ∈ ords n) (gFor n (fun k (x : Int) => x = (k : Int) ∧ ∃ Q, p.take k = cs Q ∧ Q.length = k ∧ Q.Nodup ∧ ∀ a, a ∈ Q → a < n) (Nat.zero_le _) ⟨rfl, [], rfl, rfl, List.nodup_nil, fun a ha => by simp at ha⟩ ?_) ?_
  · rintro k _ hk ⟨rfl, Q, q1, q2, q3, q4⟩
    simp only [toNat_nat]
    refine gIte (fun h1 => gChk (by omega) (gChk (fun _ => by omega) ?_)) fun h1 => gSome ?_
    rotate_left
    · obtain rfl : k = n := by omega
      rw [List.take_of_length_le (by omega)] at q1
      exact ⟨Q, q1, mem_ext.2 ⟨q2, q3, q4⟩⟩
    have hk' : k < n := by omega
    have ht : (p.take k).length = k := by rw [List.length_take]; omega
    have hmem : ∀ {Q'}, p = cs Q' → Q' ∈ ords n → Q'.take k = Q ∧ p.getD k 0 = ((Q'.getD k 0 : Nat) : Int) := fun {Q'} e hQ => by
      subst e
      refine ⟨cs_inj ?_, cs_get _ _⟩
      rw [← q1, cs, cs, List.map_take]
    have hbad : ((p.getD k 0 < 0 ∨ (n : Int) ≤ p.getD k 0) ∨ p.getD k 0 ∈ p.take k) → ¬ ∃ Q', p = cs Q' ∧ Q' ∈ ords n := by
      rintro hb ⟨Q', e, hQ⟩
      obtain ⟨m1, m2⟩ := hmem e hQ
      obtain ⟨o1, o2, o3⟩ := mem_ext.1 hQ
      have hg := o3 _ (getD_mem (show k < Q'.length by omega))
      rcases hb with hb | hb
      · omega
      · rw [q1, m2, cs_mem, ← m1] at hb
        obtain ⟨i, i1, i2⟩ := mem_getD.1 hb
        rw [List.length_take] at i1
        have e2 : (Q'.take k).getD i 0 = Q'.getD i 0 := by
          rw [List.getD_eq_getElem?_getD, List.getD_eq_getElem?_getD, List.getElem?_take, if_pos (by omega)]
        rw [e2] at i2
        have := nodup_getD o2 (by omega) (by omega) i2
        omega
    refine gBind (R := fun y => ¬ (p.getD k 0 < 0 ∨ (n : Int) ≤ p.getD k 0) → (y = true ↔ p.getD k 0 ∈ p.take k)) (gIte (fun q => ?_) fun q => gSome fun z => absurd z q) fun y hy => ?_
    · exact (Contains_spec (p.take k) (p.getD k 0) (by rw [ht]; omega)).mono fun r hr _ => hr
    · refine gIte (fun q => gSome ⟨rfl, hbad ?_⟩) fun q => gSome ⟨hk', by simp, ?_⟩
      · rcases q with q | q
        · exact .inl q
        · rcases Classical.em (p.getD k 0 < 0 ∨ (n : Int) ≤ p.getD k 0) with c | c
          · exact .inl c
          · exact .inr ((hy c).1 q)
      · have c : ¬ (p.getD k 0 < 0 ∨ (n : Int) ≤ p.getD k 0) := fun z => q (.inl z)
        have c2 : p.getD k 0 ∉ p.take k := fun z => q (.inr ((hy c).2 z))
        obtain ⟨v, hv⟩ : ∃ v : Nat, p.getD k 0 = (v : Int) := ⟨(p.getD k 0).toNat, by omega⟩
        rw [hv] at c c2
        rw [q1, cs_mem] at c2
        refine ⟨Q ++ [v], ?_, by rw [List.length_append, q2]; rfl, ?_, fun a ha => ?_⟩
        · rw [List.take_add_one, q1, ← cs_app, ← hv, List.getD_eq_getElem?_getD, List.getElem?_eq_getElem (by omega)]; rfl
        · rw [List.nodup_append]
          refine ⟨q3, List.pairwise_singleton _ _, fun a ha b hb e => ?_⟩
          rw [List.mem_singleton] at hb
          subst hb; subst e; exact c2 ha
        · rcases List.mem_append.1 ha with z | z
          · exact q4 a z
          · rw [List.mem_singleton.1 z]; omega
  · rintro (u | r) hz
    · exact gSome ⟨fun _ => hz, fun _ => rfl⟩
    · exact gSome ⟨fun z => by rw [hz.1] at z; simp at z, fun z => absurd z hz.2⟩
theorem Rename_spec (hB : Mat n B) (p : List Int) (hp : p.length ≤ 9223372036854775807) : Gets (same_Rename (n : Int) (cs B) p) (fun r => (∃ Q, p = cs Q ∧ Q ∈ ords n ∧ r = ((n : Int), cs (ren n Q B), 0)) ∨ r = (0, [], 1)) := by
  unfold same_Rename
  refine gBindE hB.check (gIte (fun z => absurd rfl z) fun _ => gBind (order_spec p hp hB.m8) fun y hy => gIte (fun q => gSome (.inr rfl)) fun q => ?_)
  obtain ⟨Q, rfl, hQ⟩ := hy.1 (by simpa using q)
  exact gBindE (renamed_spec hB hQ) (gSome (.inl ⟨Q, rfl, hQ, rfl⟩))
theorem Rename_ok {Q : List Nat} (hB : Mat n B) (hQ : Q ∈ ords n) : same_Rename (n : Int) (cs B) (cs Q) = some ((n : Int), cs (ren n Q B), 0) := by
  have hl := (mem_ext.1 hQ).1
  have h8 := hB.m8
  unfold same_Rename
  obtain ⟨y, e, hy⟩ := order_spec (cs Q) (by rw [cs_len]; omega) h8
  rw [hB.check, Option.bind_some, if_neg (by simp), e, Option.bind_some, hy.2 ⟨Q, rfl, hQ⟩, if_neg (by simp), renamed_spec hB hQ]; rfl
end
end Go.SH
