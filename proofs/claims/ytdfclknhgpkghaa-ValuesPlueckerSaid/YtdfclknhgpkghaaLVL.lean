/-
  The statement ValuesPluecker as a plain law. Conditions: the list is no longer than 2^43.
-/
import Derived.Test.YtdfclknhgpkghaaLV
set_option linter.unusedSimpArgs false
set_option linter.unusedVariables false
namespace Go.SH
open Go Go.AX

theorem best_two : values_Best 2 [(1, 0), (2, 5)] [1, 1] = some (2, 6, 0) := E_values_Best _ _ _ _ (by kernel_rfl)

theorem at_spec {m : Nat} {V : List (Nat × Int)} (h : Vals m V) (b : Nat) : Gets (rotakeep_ValuesPluecker_1 b (vcs V)) (fun r => (r.2 = true ∧ (b, r.1) ∈ V) ∨ (r.2 = false ∧ ∀ p, (b, p) ∉ V)) := by
  have hlen := h.len
  unfold rotakeep_ValuesPluecker_1 slices_IndexFunc_api_Value_api_Value rotakeep_ValuesPluecker_1_1
  simp only [vcs_len, vcs_get]
  refine gBind (R := fun r : Int => (r = -1 ∧ ∀ p, (b, p) ∉ V) ∨ ∃ k : Nat, r = (k : Int) ∧ k < V.length ∧ (V.getD k (0, 0)).1 = b)
    (gBind (R := fun z => match z with | .inl _ => ∀ j, j < V.length → (V.getD j (0, 0)).1 ≠ b | .inr r => ∃ k : Nat, r = (k : Int) ∧ k < V.length ∧ (V.getD k (0, 0)).1 = b)
      (gFor V.length (fun k v => v = (k : Int) ∧ ∀ j, j < k → (V.getD j (0, 0)).1 ≠ b) (Nat.zero_le _) ⟨rfl, none_all⟩ ?_) ?_) ?_
  · rintro k _ hk ⟨rfl, hb⟩
    refine gIte (fun h1 => gChk (by omega) ?_) fun h1 => gSome fun j hj => hb j (by omega)
    simp only [toNat_nat, Option.bind_some]
    refine gIte (fun q => gSome ⟨k, rfl, by omega, by have := of_decide_eq_true q; omega⟩) fun q => gSome ⟨by omega, by simp, step_all hb fun e => q (decide_eq_true (by omega))⟩
  · rintro (u | rr) hz
    · refine gSome (.inl ⟨rfl, fun p hp => ?_⟩)
      obtain ⟨j, hj, e⟩ := vmem_getD.1 hp
      exact hz j hj (by rw [e])
    · exact gSome (.inr hz)
  · rintro r (⟨rfl, hn⟩ | ⟨k, rfl, hk, e⟩)
    · exact gIte (fun _ => gSome (.inr ⟨rfl, hn⟩)) fun q => absurd (by omega) q
    · refine gIte (fun q => absurd q (by omega)) fun _ => gChk (by omega) (gSome (.inl ⟨rfl, ?_⟩))
      simp only [toNat_nat]
      exact vmem_getD.2 ⟨k, hk, Prod.ext e rfl⟩

/-- One of the three sums. -/
def Sum3 (V : List (Nat × Int)) (a b : Nat) (v : Option Int) : Prop := (∃ p r, (a, p) ∈ V ∧ (b, r) ∈ V ∧ v = some (p + r)) ∨ (v = none ∧ ¬ ∃ p r, (a, p) ∈ V ∧ (b, r) ∈ V)

theorem els_four {q : Nat} (hq : q < 256) (h4 : size q = 4) : ∃ x0 x1 x2 x3, els q = [x0, x1, x2, x3] ∧ x0 < 8 ∧ x1 < 8 ∧ x2 < 8 ∧ x3 < 8 ∧ x0 ≠ x1 ∧ x0 ≠ x2 ∧ x0 ≠ x3 ∧ x1 ≠ x2 ∧ x1 ≠ x3 ∧ x2 ≠ x3 ∧ ∀ i, q.testBit i = true ↔ i = x0 ∨ i = x1 ∨ i = x2 ∨ i = x3 := by
  have hl := els_len q
  rw [h4] at hl
  have hmem := fun i => els_mem (s := q) (i := i) hq
  have hnd : (els q).Nodup := by unfold els; exact List.Nodup.sublist List.filter_sublist List.nodup_range
  have hlt : ∀ i, i ∈ els q → i < 8 := fun i hi => bit_lt (m := 8) hq ((hmem i).1 hi)
  match hE : els q, hl with
  | [x0, x1, x2, x3], _ =>
    rw [hE] at hnd hlt
    simp only [List.nodup_cons, List.mem_cons, List.not_mem_nil, or_false, not_or, List.nodup_nil, and_true] at hnd
    refine ⟨x0, x1, x2, x3, rfl, hlt _ (by simp), hlt _ (by simp), hlt _ (by simp), hlt _ (by simp), hnd.1.1, hnd.1.2.1, hnd.1.2.2, hnd.2.1.1, hnd.2.1.2, hnd.2.2.1, fun i => ?_⟩
    rw [← hmem i, hE]; simp

theorem three_sums {m : Nat} {V : List (Nat × Int)} (hV : Vals m V) (hE : Exv V) {s x0 x1 x2 x3 : Nat} (s0 : s.testBit x0 = false) (s1 : s.testBit x1 = false) (s2 : s.testBit x2 = false) (s3 : s.testBit x3 = false)
    (d01 : x0 ≠ x1) (d02 : x0 ≠ x2) (d03 : x0 ≠ x3) (d12 : x1 ≠ x2) (d13 : x1 ≠ x3) (d23 : x2 ≠ x3) {a b c : Option Int}
    (ha : Sum3 V (two2 s x0 x1) (two2 s x2 x3) a) (hb : Sum3 V (two2 s x0 x2) (two2 s x1 x3) b) (hc : Sum3 V (two2 s x0 x3) (two2 s x1 x2) c) : (vstep (vstep (vstep (0, 0) a) b) c).2 ≠ 1 := by
  have get : ∀ {u v : Nat} {w : Option Int} {p r : Int}, Sum3 V u v w → (u, p) ∈ V → (v, r) ∈ V → w = some (p + r) := by
    rintro u v w p r (⟨p', r', h1, h2, rfl⟩ | ⟨_, hn⟩) h3 h4
    · rw [hV.uniq h1 h3, hV.uniq h2 h4]
    · exact absurd ⟨p, r, h3, h4⟩ hn
  have ne : ∀ {x y : Nat}, x ≠ y → y ≠ x := fun h e => h e.symm
  refine vsteps (fun v hv => ?_) (fun v hv => ?_) (fun v hv => ?_)
  · rcases ha with ⟨p, r, h1, h2, e⟩ | ⟨e, _⟩
    · rw [hv] at e; cases e
      rcases hE.split s0 s1 s2 s3 d01 d02 d03 d12 d13 d23 h1 h2 with ⟨p', r', h3, h4, h5⟩ | ⟨p', r', h3, h4, h5⟩
      · exact ⟨_, h5, .inr (get hc h3 h4)⟩
      · exact ⟨_, h5, .inl (get hb h3 h4)⟩
    · rw [hv] at e; cases e
  · rcases hb with ⟨p, r, h1, h2, e⟩ | ⟨e, _⟩
    · rw [hv] at e; cases e
      rcases hE.split s0 s2 s1 s3 d02 d01 d03 (ne d12) d23 d13 h1 h2 with ⟨p', r', h3, h4, h5⟩ | ⟨p', r', h3, h4, h5⟩
      · rw [two2_comm s x2 x1] at h4; exact ⟨_, h5, .inr (get hc h3 h4)⟩
      · exact ⟨_, h5, .inl (get ha h3 h4)⟩
    · rw [hv] at e; cases e
  · rcases hc with ⟨p, r, h1, h2, e⟩ | ⟨e, _⟩
    · rw [hv] at e; cases e
      rcases hE.split s0 s3 s1 s2 d03 d01 d02 (ne d13) (ne d23) d12 h1 h2 with ⟨p', r', h3, h4, h5⟩ | ⟨p', r', h3, h4, h5⟩
      · rw [two2_comm s x3 x1] at h4; exact ⟨_, h5, .inr (get hb h3 h4)⟩
      · rw [two2_comm s x3 x2] at h4; exact ⟨_, h5, .inl (get ha h3 h4)⟩
    · rw [hv] at e; cases e

theorem get4 {x0 x1 x2 x3 : Nat} (b0 : x0 < 8) (b1 : x1 < 8) (b2 : x2 < 8) (b3 : x3 < 8) {k : Nat} (hk : k < 4) : ([x0, x1, x2, x3] : List Nat).getD k 0 < 8 := by
  match k, hk with
  | 0, _ => exact b0
  | 1, _ => exact b1
  | 2, _ => exact b2
  | 3, _ => exact b3

set_option maxHeartbeats 2000000 in
theorem rotakeep_ValuesPluecker_law (n : Int) (l : List (Int × Int)) (hl : l.length ≤ 8796093022208) : rotakeep_ValuesPluecker n l = some true := by
  refine Gets.eq ?_
  unfold rotakeep_ValuesPluecker
  refine gBindE best_two (gIte (fun q => absurd q (by simp)) fun _ => ?_)
  refine gBind (values_Check_spec n l hl) fun y1 hy1 => gIte (fun q => gSome rfl) fun q => ?_
  obtain ⟨m, V, rfl, rfl, hV, hE⟩ := hy1 (by simpa using q)
  have hlen := hV.len
  have h8 := hV.mat.m8
  have h256 := pow_le8 h8
  have hpos : 0 < V.length := by
    have := hV.mat.ne
    rcases Nat.eq_zero_or_pos V.length with c | c
    · exact absurd (by rw [List.eq_nil_of_length_eq_zero c]; rfl) this
    · exact c
  simp only [vcs_len, vcs_get, toNat_nat, shl_nat']
  refine gChk (by omega) ?_
  refine gBind (R := fun z => match z with | .inl _ => True | .inr r => False) (gFor (2 ^ m) (fun k v => v = (k : Int)) (Nat.zero_le _) rfl ?_) ?_
  rotate_left
  · rintro (u | rr) hz
    · exact gSome rfl
    · exact hz.elim
  rintro s _ hs rfl
  refine gIte (fun h1 => ?_) fun h1 => gSome trivial
  have hs' : s < 2 ^ m := by omega
  have sz := size_of_lt (show s < 2 ^ 8 by omega) (Nat.le_refl 8)
  have hcs := cnt_le 8 s
  refine gBindE (rotaref_Size_nat s) (gChk ⟨by omega, by omega⟩ (gBindE (rotaref_Size_nat _) (gIte (fun _ => gSome ⟨hs', by simp⟩) fun _ => ?_)))
  refine gChk (by omega) ?_
  refine gBind (R := fun z => match z with | .inl _ => True | .inr r => False) (gFor (2 ^ m) (fun k v => v = (k : Int)) (Nat.zero_le _) rfl ?_) ?_
  rotate_left
  · rintro (u | rr) hz
    · exact gSome ⟨hs', by simp⟩
    · exact hz.elim
  rintro q' _ hq rfl
  refine gIte (fun h2 => ?_) fun h2 => gSome trivial
  have hq' : q' < 2 ^ m := by omega
  rw [and_nat]
  refine gBindE (rotaref_Size_nat q') (gIte (fun _ => gSome ⟨hq', by simp⟩) fun h3 => ?_)
  have h4 : size q' = 4 := by omega
  have hdis : q' &&& s = 0 := by omega
  obtain ⟨x0, x1, x2, x3, hels, b0, b1, b2, b3, d01, d02, d03, d12, d13, d23, hbits⟩ := els_four (by omega) h4
  have sbit : ∀ i, q'.testBit i = true → s.testBit i = false := (disj_iff _ _).1 hdis
  have s0 := sbit x0 ((hbits x0).2 (.inl rfl))
  have s1 := sbit x1 ((hbits x1).2 (.inr (.inl rfl)))
  have s2 := sbit x2 ((hbits x2).2 (.inr (.inr (.inl rfl))))
  have s3 := sbit x3 ((hbits x3).2 (.inr (.inr (.inr rfl))))
  have ne : ∀ {x y : Nat}, x ≠ y → y ≠ x := fun h e => h e.symm
  refine gBindE (rotaref_Elements_nat q') ?_
  rw [hels]
  -- the three rounds
  have A1 : s ||| dif q' (2 ^ x0 ||| 2 ^ x1) = two2 s x2 x3 := two2_dif hbits d02 d03 d12 d13
  have A2 : s ||| dif q' (2 ^ x0 ||| 2 ^ x2) = two2 s x1 x3 := two2_dif (fun i => by rw [hbits i]; constructor <;> rintro (h | h | h | h) <;> simp [h]) d01 d03 (ne d12) d23
  have A3 : s ||| dif q' (2 ^ x0 ||| 2 ^ x3) = two2 s x1 x2 := two2_dif (fun i => by rw [hbits i]; constructor <;> rintro (h | h | h | h) <;> simp [h]) d01 d02 (ne d13) (ne d23)
  have bnd : ∀ {b : Nat} {p : Int}, (b, p) ∈ V → -1000 ≤ p ∧ p ≤ 1000 := fun h => hV.num _ h
  refine gBind (R := fun t : Int => t ≠ 1) (gFor 4 (k0 := 1) (fun k (x : Int × Int × Int) => x.2.2 = (k : Int) ∧ 1 ≤ k ∧ (-2000 ≤ x.1 ∧ x.1 ≤ 2000 ∧ 0 ≤ x.2.1 ∧ x.2.1 ≤ 3 * k) ∧
      ((k = 1 ∧ (x.1, x.2.1) = ((0 : Int), (0 : Int))) ∨ (k = 2 ∧ ∃ a, Sum3 V (two2 s x0 x1) (two2 s x2 x3) a ∧ (x.1, x.2.1) = vstep (0, 0) a) ∨ (k = 3 ∧ ∃ a b, Sum3 V (two2 s x0 x1) (two2 s x2 x3) a ∧ Sum3 V (two2 s x0 x2) (two2 s x1 x3) b ∧ (x.1, x.2.1) = vstep (vstep (0, 0) a) b) ∨
        (k = 4 ∧ ∃ a b c, Sum3 V (two2 s x0 x1) (two2 s x2 x3) a ∧ Sum3 V (two2 s x0 x2) (two2 s x1 x3) b ∧ Sum3 V (two2 s x0 x3) (two2 s x1 x2) c ∧ (x.1, x.2.1) = vstep (vstep (vstep (0, 0) a) b) c))) (by omega) ⟨rfl, Nat.le_refl 1, by simp, .inl ⟨rfl, rfl⟩⟩ ?_) ?_
  · rintro k ⟨v2, v3, _⟩ hk ⟨rfl, hk1, hbd, hst⟩
    simp only at hbd hst ⊢
    refine gIte (fun h5 => ?_) fun h5 => gSome ?_
    · have hk4 : k < 4 := by omega
      have hxk : ([x0, x1, x2, x3] : List Nat).getD k 0 < 8 := by
        exact get4 b0 b1 b2 b3 hk4
      generalize hxe : ([x0, x1, x2, x3] : List Nat).getD k 0 = xk at hxk
      refine Gets.mono (Q := fun b => match b with | .inl s' => ∃ w, Sum3 V (two2 s x0 xk) (s ||| dif q' (2 ^ x0 ||| 2 ^ xk)) w ∧ s'.2.2 = (k : Int) + 1 ∧ (s'.1, s'.2.1) = vstep (v2, v3) w | .inr r => False) ?_ ?_
      · have e0 : ([x0, x1, x2, x3] : List Nat).getD 0 0 = x0 := rfl
        simp only [cs_len, cs_get, toNat_nat, hxe, e0, shl_nat', or_nat, dif_nat, List.length_cons, List.length_nil]
        refine gChk (by omega) (gBind (at_spec hV (two2 s x0 xk)) fun y6 hy6 => gBind (at_spec hV _) fun y7 hy7 => gIte (fun c => gSome ⟨none, .inr ⟨rfl, ?_⟩, rfl, rfl⟩) fun c => ?_)
        · rintro ⟨p, r, m1, m2⟩
          rcases c with c | c
          · rcases hy6 with ⟨h, _⟩ | ⟨_, h⟩
            · exact c h
            · exact h p m1
          · rcases hy7 with ⟨h, _⟩ | ⟨_, h⟩
            · exact c h
            · exact h r m2
        · have c1 : y6.2 = true := by
            cases h : y6.2 with
            | true => rfl
            | false => exact absurd (.inl (by rw [h]; simp)) c
          have c2 : y7.2 = true := by
            cases h : y7.2 with
            | true => rfl
            | false => exact absurd (.inr (by rw [h]; simp)) c
          have m1 : (two2 s x0 xk, y6.1) ∈ V := by
            rcases hy6 with ⟨_, h⟩ | ⟨h, _⟩
            · exact h
            · rw [c1] at h; cases h
          have m2 : (s ||| dif q' (2 ^ x0 ||| 2 ^ xk), y7.1) ∈ V := by
            rcases hy7 with ⟨_, h⟩ | ⟨h, _⟩
            · exact h
            · rw [c2] at h; cases h
          have n1 := bnd m1
          have n2 := bnd m2
          refine gChk (fun _ => by omega) (gIte (fun d1 => gChk (by omega) (gSome ⟨some (y6.1 + y7.1), .inl ⟨_, _, m1, m2, rfl⟩, rfl, ?_⟩)) fun d1 => gChk (by omega) (gIte (fun d2 => gChk (by omega) (gSome ⟨some (y6.1 + y7.1), .inl ⟨_, _, m1, m2, rfl⟩, rfl, ?_⟩)) fun d2 => gSome ⟨some (y6.1 + y7.1), .inl ⟨_, _, m1, m2, rfl⟩, rfl, ?_⟩))
          · simp only [vstep]; rw [if_pos d1]
          · simp only [vstep]; rw [if_neg d1, if_pos d2]
          · simp only [vstep]; rw [if_neg d1, if_neg d2]
      · rintro (⟨w1, w2, w3⟩ | r) hb
        · obtain ⟨w, hw, e3, e4⟩ := hb
          simp only at e3 e4
          refine ⟨hk4, by simp only; omega, by omega, ?_, ?_⟩
          · have hwb : ∀ v, w = some v → -2000 ≤ v ∧ v ≤ 2000 := by
              intro v hv
              rcases hw with ⟨p, r, m1, m2, e⟩ | ⟨e, _⟩
              · rw [hv] at e; cases e
                have := bnd m1; have := bnd m2; omega
              · rw [hv] at e; cases e
            have e5 := congrArg Prod.fst e4
            have e6 := congrArg Prod.snd e4
            simp only at e5 e6 ⊢
            cases w with
            | none => simp only [vstep] at e5 e6; omega
            | some v =>
              have := hwb v rfl
              simp only [vstep] at e5 e6
              split at e5
              · rename_i c
                rw [if_pos c] at e6
                simp only at e5 e6; omega
              · rename_i c
                rw [if_neg c] at e6
                split at e5
                · rename_i c2
                  rw [if_pos c2] at e6
                  simp only at e5 e6; omega
                · rename_i c2
                  rw [if_neg c2] at e6
                  simp only at e5 e6; omega
          · simp only
            rcases hst with ⟨rfl, e5⟩ | ⟨rfl, a, ha, e5⟩ | ⟨rfl, a, b, ha, hb, e5⟩ | ⟨rfl, _⟩
            · have : x1 = xk := hxe
              subst this
              rw [A1] at hw
              exact .inr (.inl ⟨rfl, w, hw, by rw [e4, e5]⟩)
            · have : x2 = xk := hxe
              subst this
              rw [A2] at hw
              exact .inr (.inr (.inl ⟨rfl, a, w, ha, hw, by rw [e4, e5]⟩))
            · have : x3 = xk := hxe
              subst this
              rw [A3] at hw
              exact .inr (.inr (.inr ⟨rfl, a, b, w, ha, hb, hw, by rw [e4, e5]⟩))
            · omega
        · exact hb.elim
    · have hk4 : k = 4 := by omega
      rcases hst with ⟨h, _⟩ | ⟨h, _⟩ | ⟨h, _⟩ | ⟨_, a, b, c, ha, hb, hc, e⟩
      · omega
      · omega
      · omega
      · have := three_sums hV hE s0 s1 s2 s3 d01 d02 d03 d12 d13 d23 ha hb hc
        rw [← e] at this; exact this
  · intro t ht
    refine gIte (fun q => absurd q ht) fun _ => gSome ⟨hq', by simp⟩
end Go.SH
