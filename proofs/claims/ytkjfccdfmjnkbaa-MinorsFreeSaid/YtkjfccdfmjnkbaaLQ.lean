/-
  What minors.Dual, Delete and Contract compute: the dual, and what is left of a matroid. Conditions: matroids of at most eight elements.
-/
import Derived.Test.YtkjfccdfmjnkbaaLP
import Derived.Test.YtkjfccdfmjnkbaaLB
import Derived.Test.YtkjfccdfmjnkbaaLBk
import Derived.Test.YtkjfccdfmjnkbaaSpminors
set_option linter.unusedSimpArgs false
set_option linter.unusedVariables false
namespace Go.SH
open Go Go.AX

theorem minors_size_nat {a : Nat} (h : a < 256) : minors_size (a : Int) = some ((size a : Nat) : Int) := by
  unfold minors_size
  rw [chk_pos (by omega)]
  simp [bits_OnesCount, oc_size h]
theorem shl_tab : ∀ p : Fin 9, shlOk .i64 1 (p.val : Int) = true ∧ shlOk .i64 0 (p.val : Int) = true := by decide
theorem shl_small {p : Nat} (h : p ≤ 8) (b : Bool) : shlOk .i64 (if b = true then 1 else 0) (p : Int) = true := by
  have := shl_tab ⟨p, by omega⟩
  cases b
  · exact this.2
  · exact this.1
theorem pressed_nat {m : Nat} (h8 : m ≤ 8) (s g : Nat) : minors_pressed m s g = some ((pk m g s : Nat) : Int) := by
  refine Gets.eq ?_
  unfold minors_pressed
  refine gBind (R := fun o => o = ((pk m g s : Nat) : Int)) (gFor m (fun k (x : Int × Int × Int) => x.1 = ((pk k g s : Nat) : Int) ∧ x.2.1 = ((ps k g : Nat) : Int) ∧ x.2.2 = (k : Int)) (Nat.zero_le _) ⟨rfl, rfl, rfl⟩ ?_) fun o ho => gSome ho
  rintro k ⟨_, _, _⟩ hk ⟨rfl, rfl, rfl⟩
  have hp := ps_le k g
  simp only [toNat_nat, shl_nat', bitB]
  refine gIte (fun h1 => gChk (by omega) ?_) fun h1 => gSome (by have : k = m := by omega
                                                                 subst this; rfl)
  have hk' : k < m := by omega
  cases hg : g.testBit k with
  | true => exact gIte (fun _ => gSome ⟨hk', by simp [pk, hg], by simp [ps, hg], by simp⟩) fun q => absurd (by simp) q
  | false =>
    refine gIte (fun q => absurd q (by simp)) fun _ => gChk ⟨by omega, shl_small (by omega) _⟩ (gChk (by omega) (gSome ⟨hk', ?_, by simp [ps, hg], by simp⟩))
    have e : (if s.testBit k = true then (1 : Int) else 0) * ((2 ^ ps k g : Nat) : Int) = (((if s.testBit k = true then 2 ^ ps k g else 0 : Nat)) : Int) := by
      cases s.testBit k <;> simp
    simp only [e, or_nat, pk, hg, Bool.false_eq_true, if_false]
/-- What a basis counts for. -/
def kval (m s : Nat) (most : Bool) (b : Nat) : Nat := if most then cnt m (b &&& s) else m - cnt m (b &&& s)
theorem kval_le (m s : Nat) (most : Bool) (b : Nat) : kval m s most b ≤ m := by
  have := cnt_le m (b &&& s)
  unfold kval; split <;> omega
theorem kept_spec {m : Nat} {B : List Nat} (hf : Fam m B) {s : Nat} (hs : s < 2 ^ m) (most : Bool) :
    Gets (minors_kept m (cs B) s most) (fun r => ∃ L, r = cs L ∧ L.length ≤ 256 ∧ ∀ b, b ∈ L ↔ b ∈ B ∧ ∀ b', b' ∈ B → kval m s most b' ≤ kval m s most b) := by
  have h8 := hf.m8
  have h256 := pow_le8 h8
  have hlen := hf.len
  unfold minors_kept
  refine gBind (R := fun o => ∃ L, o = cs L ∧ L.length ≤ 256 ∧ ∀ b, b ∈ L ↔ b ∈ B ∧ ∀ b', b' ∈ B → kval m s most b' ≤ kval m s most b) (gFor B.length (fun k (x : Int × List Int × Int) => x.2.2 = (k : Int) ∧ -1 ≤ x.1 ∧ x.1 ≤ 8 ∧ (x.1 = -1 ∨ ∃ b, b ∈ B.take k ∧ ((kval m s most b : Nat) : Int) = x.1) ∧ (∀ b, b ∈ B.take k → ((kval m s most b : Nat) : Int) ≤ x.1) ∧
    ∃ L, x.2.1 = cs L ∧ L.length ≤ k ∧ ∀ b, b ∈ L ↔ b ∈ B.take k ∧ ((kval m s most b : Nat) : Int) = x.1) (Nat.zero_le _) ⟨rfl, by omega, by omega, .inl rfl, fun b hb => by simp at hb, [], rfl, by simp, fun b => by simp⟩ ?_) fun o ho => gSome ho
  rintro k ⟨best, _, _⟩ hk ⟨rfl, i1, i2, i3, i4, L, rfl, i5, i6⟩
  simp only [cs_len, cs_get, toNat_nat, and_nat] at i1 i2 i3 i4 i6 ⊢
  refine gIte (fun h1 => gChk (by omega) ?_) fun h1 => ?_
  · have hk' : k < B.length := by omega
    have hmem := mem_getD.2 ⟨k, hk', rfl⟩
    have hbm := hf.lt _ hmem
    have etake : B.take (k + 1) = B.take k ++ [B.getD k 0] := by
      rw [List.take_add_one, List.getD_eq_getElem?_getD, List.getElem?_eq_getElem hk']; rfl
    have hlt : B.getD k 0 &&& s < 2 ^ m := and_lt hbm
    rw [minors_size_nat (by omega), Option.bind_some, size_of_lt hlt h8]
    have hc := cnt_le m (B.getD k 0 &&& s)
    refine gJoin (R := fun v => v = ((kval m s most (B.getD k 0) : Nat) : Int)) ?_ ?_
    · rintro v rfl
      have hv := kval_le m s most (B.getD k 0)
      generalize hvv : kval m s most (B.getD k 0) = kv at *
      refine gJoin (R := fun x => (best < (kv : Int) ∧ x = ((kv : Int), [])) ∨ ((kv : Int) ≤ best ∧ x = (best, cs L))) ?_ ?_
      · rintro ⟨_, _⟩ (⟨hlt, e⟩ | ⟨hle, e⟩)
        · cases e
          refine gIte (fun _ => gChk (by simp) (gSome ⟨hk', by simp, by omega, by omega, .inr ⟨B.getD k 0, by rw [etake]; exact List.mem_append.2 (.inr (List.mem_singleton.2 rfl)), by rw [hvv]⟩, fun b hb => ?_, [B.getD k 0], rfl, by simp, fun b => ?_⟩)) fun q => absurd rfl q
          · rw [etake] at hb
            rcases List.mem_append.1 hb with q | q
            · have := i4 b q; omega
            · rw [List.mem_singleton.1 q, hvv]; exact Int.le_refl _
          · rw [etake, List.mem_append, List.mem_singleton]
            constructor
            · rintro rfl; exact ⟨.inr rfl, by rw [hvv]⟩
            · rintro ⟨q | q, q2⟩
              · have := i4 b q; omega
              · exact q
        · cases e
          refine gIte (fun q => gChk (by rw [List.length_append, cs_len]; simp only [List.length_cons, List.length_nil]; omega) (gSome ⟨hk', by simp, i1, i2, .inr ⟨B.getD k 0, by rw [etake]; exact List.mem_append.2 (.inr (List.mem_singleton.2 rfl)), by rw [hvv]; exact q⟩, fun b hb => ?_, L ++ [B.getD k 0], cs_app _ _, by rw [List.length_append]; simp only [List.length_cons, List.length_nil]; omega, fun b => ?_⟩)) fun q => gSome ⟨hk', by simp, i1, i2, ?_, fun b hb => ?_, L, rfl, by omega, fun b => ?_⟩
          · rw [etake] at hb
            rcases List.mem_append.1 hb with q | q
            · exact i4 b q
            · rw [List.mem_singleton.1 q, hvv]; exact hle
          · rw [etake, List.mem_append, List.mem_append, List.mem_singleton, i6 b]
            constructor
            · rintro (⟨q1, q2⟩ | rfl)
              · exact ⟨.inl q1, q2⟩
              · exact ⟨.inr rfl, by rw [hvv]; exact q⟩
            · rintro ⟨q1 | q1, q2⟩
              · exact .inl ⟨q1, q2⟩
              · exact .inr q1
          · rcases i3 with e | ⟨b, b1, b2⟩
            · exact .inl e
            · exact .inr ⟨b, by rw [etake]; exact List.mem_append.2 (.inl b1), b2⟩
          · rw [etake] at hb
            rcases List.mem_append.1 hb with q | q
            · exact i4 b q
            · rw [List.mem_singleton.1 q, hvv]; exact hle
          · rw [etake, List.mem_append, List.mem_singleton, i6 b]
            constructor
            · rintro ⟨q1, q2⟩; exact ⟨.inl q1, q2⟩
            · rintro ⟨q1 | q1, q2⟩
              · exact ⟨q1, q2⟩
              · rw [q1, hvv] at q2; exact absurd q2 q
      · intro j hj
        exact gIte (fun q => hj _ (.inl ⟨q, rfl⟩)) fun q => hj _ (.inr ⟨by omega, rfl⟩)
    · intro j hj
      cases most with
      | true => exact gIte (fun q => absurd rfl q) fun _ => hj _ rfl
      | false => exact gIte (fun _ => gChk (by omega) (hj _ (by unfold kval; simp only [Bool.false_eq_true, if_false]; omega))) fun q => absurd (by simp) q
  · have hkl : k = B.length := by omega
    subst hkl
    rw [List.take_length] at i3 i4 i6
    refine gSome ⟨L, rfl, by omega, fun b => ?_⟩
    rw [i6 b]
    constructor
    · rintro ⟨q1, q2⟩; exact ⟨q1, fun b' hb' => by have := i4 b' hb'; omega⟩
    · rintro ⟨q1, q2⟩
      refine ⟨q1, ?_⟩
      have h1 := i4 b q1
      rcases i3 with e | ⟨b', b1, b2⟩
      · omega
      · have := q2 b' b1; omega

theorem made_spec {n : Nat} (h8 : n ≤ 8) (N : List Nat) (hlt : ∀ s, s ∈ N → s < 2 ^ n) (hl : N.length ≤ 2048) : ∃ K, minors_made n (cs N) = some ((n : Int), cs K) ∧ Fam n K ∧ ∀ s, s ∈ K ↔ s ∈ N := by
  obtain ⟨K, k1, k2, k3⟩ := sortU h8 N hlt
  have hKl := k2.len
  refine ⟨K, ?_, k2, k3⟩
  unfold minors_made
  rw [k1, chk_pos (by simp; omega), chk_pos (by simp; omega)]
theorem map_loop {m : Nat} (h8 : m ≤ 8) (L : List Nat) (s : Nat) (hl : L.length ≤ 256) {f : List Int × Int → Option ((List Int × Int) ⊕ List Int)}
    (hf : ∀ (l : List Int) (k : Nat), k < L.length → l.length ≤ 256 → f (l, (k : Int)) = some (.inl (l ++ [((pk m s (L.getD k 0) : Nat) : Int)], (k : Int) + 1))) (he : ∀ l : List Int, f (l, (L.length : Int)) = some (.inr l)) :
    loopM (ρ := List Int) f ([], 0) = some (cs (L.map (pk m s))) := by
  refine Gets.eq (gFor L.length (fun k (x : List Int × Int) => x.2 = (k : Int) ∧ x.1 = cs ((L.take k).map (pk m s))) (Nat.zero_le _) ⟨rfl, rfl⟩ ?_)
  rintro k ⟨_, _⟩ hk ⟨rfl, rfl⟩
  rcases Nat.lt_or_ge k L.length with q | q
  · rw [hf _ k q (by simp; omega)]
    refine gSome ⟨q, by simp, ?_⟩
    show cs _ ++ [_] = _
    rw [cs_app, List.take_add_one, List.map_append, List.getD_eq_getElem?_getD, List.getElem?_eq_getElem q]; rfl
  · have : k = L.length := by omega
    subst this
    rw [he]
    exact gSome (by rw [List.take_length])

section
variable {m : Nat} {B : List Nat} (h : Mat m B)
include h
theorem Mat.right (a : Int) : minors_right m (cs B) a = sets_Check m a := by
  unfold minors_right
  rw [h.check, Option.bind_some, if_neg (by simp)]
  cases sets_Check m a <;> rfl
theorem Mat.size_ps {s : Nat} (hs : s < 2 ^ m) : ((m : Int) - ((size s : Nat) : Int)) = ((ps m s : Nat) : Int) := by
  have := ps_cnt m s
  rw [size_of_lt hs h.m8]; omega
theorem Mat.Dual_ok : ∃ K, minors_Dual m (cs B) = some ((m : Int), cs K, 0) ∧ Mat m K ∧ ∀ x, x ∈ K ↔ ∃ b, b ∈ B ∧ x = cpl m b := by
  have h8 := h.m8
  have h256 := pow_le8 h8
  have hlen := h.len
  have hpos : 0 < 2 ^ m := Nat.pow_pos (by omega)
  have e : (((2 ^ m : Nat) : Int) - 1) = ((2 ^ m - 1 : Nat) : Int) := by omega
  obtain ⟨K, k1, k2, k3⟩ := made_spec h8 (B.map (cpl m)) (fun s hs => by
    obtain ⟨b, _, rfl⟩ := List.mem_map.1 hs
    exact cpl_lt m b) (by simp; omega)
  have k4 : ∀ x, x ∈ K ↔ ∃ b, b ∈ B ∧ x = cpl m b := fun x => by
    rw [k3 x, List.mem_map]
    exact ⟨fun ⟨b, h1, h2⟩ => ⟨b, h1, h2.symm⟩, fun ⟨b, h1, h2⟩ => ⟨b, h1, h2.symm⟩⟩
  refine ⟨K, ?_, h.dual k2 k4, k4⟩
  refine Gets.eq ?_
  unfold minors_Dual
  refine gBindE h.check (gIte (fun q => absurd rfl q) fun _ => ?_)
  refine gBind (R := fun o => o = cs (B.map (cpl m))) (gFor B.length (fun k (x : List Int × Int) => x.2 = (k : Int) ∧ x.1 = cs ((B.take k).map (cpl m))) (Nat.zero_le _) ⟨rfl, rfl⟩ ?_) ?_
  · rintro k ⟨_, _⟩ hk ⟨rfl, rfl⟩
    simp only [cs_len, cs_get, toNat_nat, shl_nat', e, dif_nat]
    refine gIte (fun h1 => gChk (by omega) (gChk ⟨by omega, by omega, ?_⟩ (gSome ⟨by omega, by simp, ?_⟩))) fun h1 => gSome (by rw [List.take_of_length_le (by omega)])
    · rw [List.length_append, cs_len, List.length_map]
      simp only [List.length_cons, List.length_nil, List.length_take]; omega
    · have q : k < B.length := by omega
      show cs _ ++ [_] = _
      rw [cs_app, List.take_add_one, List.map_append, List.getD_eq_getElem?_getD, List.getElem?_eq_getElem q]; rfl
  · rintro o rfl
    exact gBindE k1 (gSome rfl)
theorem Mat.kval_most {s b : Nat} : (b ∈ B ∧ ∀ b', b' ∈ B → kval m s true b' ≤ kval m s true b) ↔ MaxK m B s b := by
  have _ := h
  unfold kval MaxK; simp
theorem Mat.kval_least {s b : Nat} : (b ∈ B ∧ ∀ b', b' ∈ B → kval m s false b' ≤ kval m s false b) ↔ MaxK m B (cpl m s) b := by
  unfold kval MaxK
  simp only [Bool.false_eq_true, if_false]
  constructor
  · rintro ⟨h1, h2⟩
    refine ⟨h1, fun b' hb' => ?_⟩
    have q := h2 b' hb'
    rw [and_cpl (h.lt b' hb'), and_cpl (h.lt b h1)]
    have q1 := cnt_split m b s
    have q2 := cnt_split m b' s
    have q3 := h.eqc b h1 b' hb'
    have q4 := cnt_le m (b &&& s)
    have q5 := cnt_le m (b' &&& s)
    omega
  · rintro ⟨h1, h2⟩
    refine ⟨h1, fun b' hb' => ?_⟩
    have q := h2 b' hb'
    rw [and_cpl (h.lt b' hb'), and_cpl (h.lt b h1)] at q
    have q1 := cnt_split m b s
    have q2 := cnt_split m b' s
    have q3 := h.eqc b h1 b' hb'
    omega
theorem Mat.Check_set {a : Int} (hm : m ≤ 8) : (∃ s : Nat, a = (s : Int) ∧ s < 2 ^ m ∧ sets_Check m a = some 0) ∨ sets_Check m a = some 1 := by
  have _ := h
  unfold sets_Check
  rw [chk_pos (fun _ => by omega)]
  simp only [toNat_nat, shl_nat']
  by_cases q : ((((m : Int) < 0 ∨ 8 < (m : Int)) ∨ a < 0) ∨ ((2 ^ m : Nat) : Int) ≤ a)
  · right; rw [if_pos q]
  · left
    rw [if_neg q]
    exact ⟨a.toNat, by omega, by omega, rfl⟩
theorem Mat.Delete_bad {a : Int} (hc : sets_Check m a = some 1) : minors_Delete m (cs B) a = some (0, [], 1) ∧ minors_Contract m (cs B) a = some (0, [], 1) := by
  unfold minors_Delete minors_Contract
  rw [h.right a, hc]
  exact ⟨rfl, rfl⟩
theorem Mat.Delete_ok {s : Nat} (hs : s < 2 ^ m) (hc : sets_Check m s = some 0) : ∃ K, minors_Delete m (cs B) s = some (((ps m s : Nat) : Int), cs K, 0) ∧ Mat (ps m s) K ∧ ∀ x, x ∈ K ↔ ∃ b, MaxK m B (cpl m s) b ∧ x = pk m s b := by
  have h8 := h.m8
  have h256 := pow_le8 h8
  have hp := ps_le m s
  obtain ⟨_, e1, L, rfl, l1, l2⟩ := kept_spec h.toFam hs false
  obtain ⟨K, k1, k2, k3⟩ := made_spec (n := ps m s) (by omega) (L.map (pk m s)) (fun x hx => by
    obtain ⟨b, _, rfl⟩ := List.mem_map.1 hx
    exact pk_lt m s b) (by simp; omega)
  have k4 : ∀ x, x ∈ K ↔ ∃ b, MaxK m B (cpl m s) b ∧ x = pk m s b := fun x => by
    rw [k3 x, List.mem_map]
    exact ⟨fun ⟨b, h1, h2⟩ => ⟨b, h.kval_least.1 ((l2 b).1 h1), h2.symm⟩, fun ⟨b, h1, h2⟩ => ⟨b, (l2 b).2 (h.kval_least.2 h1), h2.symm⟩⟩
  refine ⟨K, ?_, h.minor (.inr rfl) hs k2 k4, k4⟩
  unfold minors_Delete
  rw [h.right s, hc, Option.bind_some, if_neg (by simp), e1, Option.bind_some]
  simp only []
  rw [map_loop (m := m) (s := s) h8 L l1 (fun l k hk hl => ?_) (fun l => ?_), Option.bind_some, minors_size_nat (by omega), Option.bind_some, h.size_ps hs, chk_pos (by omega), k1]
  · rfl
  · simp only [cs_len, cs_get, toNat_nat]
    rw [if_pos (by omega), chk_pos (by omega), pressed_nat h8, Option.bind_some, chk_pos (by rw [List.length_append]; simp only [List.length_cons, List.length_nil]; omega)]
  · simp only [cs_len]
    rw [if_neg (by omega)]
theorem Mat.Contract_ok {s : Nat} (hs : s < 2 ^ m) (hc : sets_Check m s = some 0) : ∃ K, minors_Contract m (cs B) s = some (((ps m s : Nat) : Int), cs K, 0) ∧ Mat (ps m s) K ∧ ∀ x, x ∈ K ↔ ∃ b, MaxK m B s b ∧ x = pk m s b := by
  have h8 := h.m8
  have h256 := pow_le8 h8
  have hp := ps_le m s
  obtain ⟨_, e1, L, rfl, l1, l2⟩ := kept_spec h.toFam hs true
  obtain ⟨K, k1, k2, k3⟩ := made_spec (n := ps m s) (by omega) (L.map (pk m s)) (fun x hx => by
    obtain ⟨b, _, rfl⟩ := List.mem_map.1 hx
    exact pk_lt m s b) (by simp; omega)
  have k4 : ∀ x, x ∈ K ↔ ∃ b, MaxK m B s b ∧ x = pk m s b := fun x => by
    rw [k3 x, List.mem_map]
    exact ⟨fun ⟨b, h1, h2⟩ => ⟨b, h.kval_most.1 ((l2 b).1 h1), h2.symm⟩, fun ⟨b, h1, h2⟩ => ⟨b, (l2 b).2 (h.kval_most.2 h1), h2.symm⟩⟩
  refine ⟨K, ?_, h.minor (.inl rfl) hs k2 k4, k4⟩
  unfold minors_Contract
  rw [h.right s, hc, Option.bind_some, if_neg (by simp), e1, Option.bind_some]
  simp only []
  rw [map_loop (m := m) (s := s) h8 L l1 (fun l k hk hl => ?_) (fun l => ?_), Option.bind_some, minors_size_nat (by omega), Option.bind_some, h.size_ps hs, chk_pos (by omega), k1]
  · rfl
  · simp only [cs_len, cs_get, toNat_nat]
    rw [if_pos (by omega), chk_pos (by omega), pressed_nat h8, Option.bind_some, chk_pos (by rw [List.length_append]; simp only [List.length_cons, List.length_nil]; omega)]
  · simp only [cs_len]
    rw [if_neg (by omega)]
end
end Go.SH
