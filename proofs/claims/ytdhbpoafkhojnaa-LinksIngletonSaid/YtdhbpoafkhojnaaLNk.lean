/-
  Gammoids are the duals of transversal matroids: the statement LinksIngleton as a plain law. Conditions: none.
-/
import Derived.Test.YtdhbpoafkhojnaaLNj
import Derived.Test.YtdhbpoafkhojnaaLQd
import Derived.Test.YtdhbpoafkhojnaaLSm
import Derived.Test.YtdhbpoafkhojnaaSkLinksIngleton
set_option linter.unusedSimpArgs false
set_option linter.unusedVariables false
namespace Go.SH
open Go Go.AX

theorem ways_eq {N s t : Nat} {E : List (Int × Int)} {n : Int} (h : Least (2 + 2 * N) (lay E s t N E.length) n) : n = ((cnt N s : Nat) : Int) ↔ ∀ S : Nat → Bool, S 0 = true → S 1 = false → ((cnt N s : Nat) : Int) ≤ outS (2 + 2 * N) (lay E s t N E.length) S := by
  classical
  constructor
  · rintro rfl; exact h.1
  · intro hc
    obtain ⟨h1, S, s0, s1, s2⟩ := h
    have a := hc S s0 s1
    have b := h1 (fun x => decide (x = 0)) (by simp) (by simp)
    rw [out_lay s t _ (by simp) (by simp)] at b
    have e1 : ∀ v, decide (2 + 2 * v = 0) = false := fun v => decide_eq_false (by omega)
    have e2 : ∀ v, decide (3 + 2 * v = 0) = false := fun v => decide_eq_false (by omega)
    simp only [e1, e2, Bool.false_eq_true, if_false] at b
    rw [sm_cnt, sm_zero (f := fun _ => (0 : Int) + 0) fun v _ => rfl] at b
    omega
theorem Gammoid_spec {N : Nat} {E : List (Int × Int)} (h : CG N E) {t : Nat} (ht : t < 2 ^ N) : Gets (links_Gammoid N E (t : Int)) (fun r => ∃ K, r = ((N : Int), cs K, 0) ∧ Fam N K ∧ ∀ s, s ∈ K ↔ s < 2 ^ N ∧ cnt N s = cnt N t ∧ ∀ S : Nat → Bool, S 0 = true → S 1 = false → ((cnt N s : Nat) : Int) ≤ outS (2 + 2 * N) (lay E s t N E.length) S) := by
  have hn1 := h.n1
  have hn7 := h.n7
  have h256 := pow_le8 (n := N) (by omega)
  unfold links_Gammoid
  refine gBind (right_spec N E [(t : Int)]) fun e he => gIte (fun q => absurd (he.2 ⟨h, fun k hk => ?_⟩) q) fun _ => ?_
  · rw [toNat_nat, show k = 0 by simp at hk; omega]
    show 0 ≤ (t : Int) ∧ (t : Int) < _
    omega
  refine gChk ⟨by omega, by omega⟩ ?_
  simp only [toNat_nat, shl_nat']
  have hst : links_size (t : Int) = some ((cnt N t : Nat) : Int) := by rw [links_size_nat (by omega), size_of_lt ht (by omega)]
  refine gBind (R := fun l => ∃ K, l = cs K ∧ Fam N K ∧ ∀ s, s ∈ K ↔ s < 2 ^ N ∧ cnt N s = cnt N t ∧ ∀ S : Nat → Bool, S 0 = true → S 1 = false → ((cnt N s : Nat) : Int) ≤ outS (2 + 2 * N) (lay E s t N E.length) S)
    (gFor (2 ^ N) (fun k (x : List Int × Int) => x.2 = (k : Int) ∧ ∃ K : List Nat, x.1 = cs K ∧ K.Pairwise (· < ·) ∧ K.length ≤ k ∧ ∀ s, s ∈ K ↔ s < k ∧ cnt N s = cnt N t ∧ ∀ S : Nat → Bool, S 0 = true → S 1 = false → ((cnt N s : Nat) : Int) ≤ outS (2 + 2 * N) (lay E s t N E.length) S) (Nat.zero_le _) ⟨rfl, [], rfl, List.Pairwise.nil, Nat.le_refl _, fun s => ⟨fun w => (by cases w), fun w => absurd w.1 (by omega)⟩⟩ ?_) ?_
  · rintro k ⟨_, _⟩ hk ⟨rfl, K, rfl, k1, k2, k3⟩
    dsimp only
    refine gIte (fun h1 => ?_) fun h1 => gSome ⟨K, rfl, fam_pw (by omega) (fun s hs => by have := ((k3 s).1 hs).1; omega) k1, fun s => (k3 s).trans (by rw [show k = 2 ^ N by omega])⟩
    have hk' : k < 2 ^ N := by omega
    have hsk : links_size (k : Int) = some ((cnt N k : Nat) : Int) := by rw [links_size_nat (by omega), size_of_lt hk' (by omega)]
    refine gBindE hsk (gBindE hst ?_)
    have skip : ¬ (cnt N k = cnt N t ∧ ∀ S : Nat → Bool, S 0 = true → S 1 = false → ((cnt N k : Nat) : Int) ≤ outS (2 + 2 * N) (lay E k t N E.length) S) → ∀ s, s ∈ K ↔ s < k + 1 ∧ cnt N s = cnt N t ∧ ∀ S : Nat → Bool, S 0 = true → S 1 = false → ((cnt N s : Nat) : Int) ≤ outS (2 + 2 * N) (lay E s t N E.length) S := fun hno s => (k3 s).trans ⟨fun w => ⟨by omega, w.2⟩, fun w => by
      rcases Nat.lt_succ_iff_lt_or_eq.1 w.1 with q | q
      · exact ⟨q, w.2⟩
      · subst q; exact absurd w.2 hno⟩
    by_cases c : cnt N k = cnt N t
    · rw [if_pos (by omega), if_pos (by omega)]
      refine gBind (ways_spec h k t) ?_
      rintro n ⟨n1, _, _⟩
      refine gBindE hsk (gIte (fun q => ?_) fun q => gSome ⟨hk', by simp, K, rfl, k1, by omega, skip fun w => q ⟨by omega, (ways_eq n1).2 w.2⟩⟩)
      refine gChk (by rw [List.length_append, cs_len]; simp; omega) (gSome ⟨hk', by simp, K ++ [k], cs_app _ _, ?_, by rw [List.length_append]; simp; omega, fun s => ?_⟩)
      · rw [List.pairwise_append]
        exact ⟨k1, List.pairwise_singleton _ _, fun a ha b hb => by rw [List.mem_singleton] at hb; subst hb; exact ((k3 a).1 ha).1⟩
      · rw [List.mem_append, List.mem_singleton, k3]
        constructor
        · rintro (w | rfl)
          · exact ⟨by omega, w.2⟩
          · exact ⟨by omega, c, (ways_eq n1).1 q.2⟩
        · rintro ⟨w1, w2⟩
          rcases Nat.lt_succ_iff_lt_or_eq.1 w1 with z | z
          · exact .inl ⟨z, w2⟩
          · exact .inr z
    · rw [if_neg (by omega), if_neg (by omega)]
      exact gBindE rfl (gBindE rfl (gIte (fun q => absurd q.1 (by omega)) fun _ => gSome ⟨hk', by simp, K, rfl, k1, by omega, skip fun w => c w.1⟩))
  · rintro _ ⟨K, rfl, hF, hK⟩
    exact gSome ⟨K, rfl, hF, hK⟩
theorem Trans_ok {N : Nat} {L : List Nat} (h : HOk N L) : Gets (kinds_Transversal N (cs L)) (fun r => ∃ K, r = ((N : Int), cs K, 0) ∧ Fam N K ∧ ∀ s, s ∈ K ↔ s < 2 ^ N ∧ SDR L s 0 ∧ ∀ t, t < 2 ^ N → SDR L t 0 → cnt N t ≤ cnt N s) := by
  have hm8 := h.n8
  have hl8 := h.l8
  unfold kinds_Transversal
  refine gIte (fun q => absurd q (by omega)) fun _ => ?_
  refine gBind (R := fun z => match z with | .inl _ => True | .inr r => False) (gFor L.length (fun k v => v = (k : Int)) (Nat.zero_le _) rfl ?_) ?_
  · rintro k _ hk rfl
    simp only [toNat_nat, shl_nat', cs_len, cs_get]
    refine gIte (fun h1 => gChk (by omega) (gChk (fun _ => by omega) (gIte (fun q => ?_) fun q => gSome ⟨by omega, by simp⟩))) fun h1 => gSome trivial
    have := h.lt k (by omega)
    omega
  · rintro (u | r) hz
    · refine gIte (fun q => absurd q (by rw [cs_len]; omega)) fun _ => ?_
      refine gBind (greatest_spec (p := fun s => SDR L s 0) hm8 (fun s hs => Transversal1_spec h hs) (SDR_nil L)) ?_
      rintro _ ⟨K, rfl, hF, hK⟩
      exact gSome ⟨K, rfl, hF, hK⟩
    · exact hz.elim
theorem sets01 : Gets (links_Sets 2 [(0, 1)] 2) (fun y => y = ([3], 0)) := by
  have h : CG ((2 : Nat) : Int) [(0, 1)] := ⟨by decide, by decide, by decide, fun k hk => by
    have : k = 0 := by simpa using hk
    subst this
    exact ⟨by decide, by decide, by decide, by decide⟩⟩
  refine (show Gets (links_Sets ((2 : Nat) : Int) [(0, 1)] ((2 : Nat) : Int)) _ from Sets_spec h (by decide)).mono ?_
  rintro _ ⟨L, rfl, hL, hO⟩
  have hl : L.length = 1 := hL
  match L, hl with
  | [a], _ =>
    have : a = 3 := bx fun j => by
      have e := hO 0 (by simp) j
      have e1 : (elm 2 (cpl 2 2)).getD 0 0 = 0 := by decide
      simp only [e1] at e
      have e2 : ([a] : List Nat).getD 0 0 = a := rfl
      rw [e2] at e
      rw [Bool.eq_iff_iff, e]
      constructor
      · rintro ⟨w1, _⟩
        rcases (show j = 0 ∨ j = 1 by omega) with rfl | rfl <;> decide
      · intro w
        have w1 := bit_lt (m := 2) (by decide) w
        rcases (show j = 0 ∨ j = 1 by omega) with rfl | rfl
        · exact ⟨by omega, .inl rfl⟩
        · exact ⟨by omega, .inr ⟨0, by simp, rfl, rfl⟩⟩
    subst this
    rfl
theorem rotakeep_LinksIngleton_law (g : Int) (E : List (Int × Int)) (b : Int) : rotakeep_LinksIngleton g E b = some true := by
  refine Gets.eq ?_
  unfold rotakeep_LinksIngleton
  refine gBind sets01 ?_
  rintro _ rfl
  refine gIte (fun _ => ?_) fun q => absurd (by decide) q
  refine gBind (Gets.of_eq (Same_spec [3] [3])) ?_
  rintro _ rfl
  refine gIte (fun q => absurd (by decide) q) fun _ => ?_
  by_cases hok : ∃ N t : Nat, g = N ∧ b = t ∧ CG (N : Int) E ∧ t < 2 ^ N
  case neg =>
    obtain ⟨e, he, hee⟩ := right_spec g E [b]
    have hne : e ≠ 0 := fun w => by
      obtain ⟨hg, hb⟩ := hee.1 w
      have := hg.n1
      obtain ⟨N, rfl⟩ := Int.eq_ofNat_of_zero_le (show 0 ≤ g by omega)
      have h0 : 0 ≤ b ∧ b < ((2 ^ N : Nat) : Int) := hb 0 (by simp)
      obtain ⟨t, rfl⟩ := Int.eq_ofNat_of_zero_le h0.1
      exact hok ⟨N, t, rfl, rfl, hg, by omega⟩
    unfold links_Gammoid links_Sets
    rw [he]
    simp only [Option.bind_some, if_pos hne]
    exact gSome (by simp)
  obtain ⟨N, t, rfl, rfl, hg, ht⟩ := hok
  have hn7 := hg.n7
  refine gBind (Gammoid_spec hg ht) ?_
  rintro _ ⟨KG, rfl, hFG, hKG⟩
  refine gBind (Sets_spec hg ht) ?_
  rintro _ ⟨L, rfl, hL, hO⟩
  have hHok := hO.hok hg hL
  dsimp only
  refine gIte (fun q => absurd rfl q) fun _ => ?_
  obtain ⟨_, hT, KT, rfl, hFT, hKT⟩ := Trans_ok hHok
  have hMT : Mat N KT := aug_mat hHok.n8 hFT hKT (SDR_nil L) (fun s t h1 h2 => SDR_sub h1 h2) fun I J hI hJ a b c => SDR_aug hI hJ a b c
  have c2 := cpl_cnt (m := N) (s := t)
  -- the greatest are as many as the sets
  have hself : SDR L (cpl N t) 0 := ⟨fun x => cnt x (cpl N t), fun x hx => by
    have hxN := bit_lt (cpl_lt N t) hx
    have hk : cnt x (cpl N t) < L.length := by rw [hL]; exact cnt_idx hxN hx
    refine ⟨hk, by simp, (hO _ hk x).2 ⟨hxN, .inl ?_⟩⟩
    exact (elm_at hxN hx).symm, fun x y hx hy e => by
    have a := elm_at (bit_lt (cpl_lt N t) hx) hx
    have b := elm_at (bit_lt (cpl_lt N t) hy) hy
    have e' : cnt x (cpl N t) = cnt y (cpl N t) := e
    rw [e'] at a
    rw [← a, b]⟩
  have hle : ∀ x, x < 2 ^ N → SDR L x 0 → cnt N x ≤ L.length := fun x hx ⟨f, f1, f2⟩ => by
    obtain ⟨N', _, n2, _⟩ := image_ex (n := N) f L.length x hx (fun y hy => (f1 y hy).1) f2
    rw [← n2]; exact cnt_le _ _
  have hKT' : ∀ x, x ∈ KT ↔ x < 2 ^ N ∧ SDR L x 0 ∧ cnt N x = L.length := fun x => by
    rw [hKT]
    constructor
    · rintro ⟨a, b, c⟩
      have := c _ (cpl_lt N t) hself
      have := hle x a b
      exact ⟨a, b, by omega⟩
    · rintro ⟨a, b, c⟩
      exact ⟨a, b, fun y hy hy2 => by have := hle y hy hy2; omega⟩
  have hrel : ∀ s, s ∈ KG ↔ ∃ x, x ∈ KT ∧ s = cpl N x := fun s => by
    rw [hKG]
    have c1 := cpl_cnt (m := N) (s := s)
    constructor
    · rintro ⟨a, b1, c⟩
      exact ⟨cpl N s, (hKT' _).2 ⟨cpl_lt N s, (link_iff hg a ht b1 hL hO).1 c, by omega⟩, (cpl_cpl a).symm⟩
    · rintro ⟨x, hx, rfl⟩
      obtain ⟨x1, x2, x3⟩ := (hKT' x).1 hx
      have c3 := cpl_cnt (m := N) (s := x)
      have hc : cnt N (cpl N x) = cnt N t := by omega
      exact ⟨cpl_lt N x, hc, (link_iff hg (cpl_lt N x) ht hc hL hO).2 (by rw [cpl_cpl x1]; exact x2)⟩
  have hMG : Mat N KG := hMT.dual hFG hrel
  obtain ⟨D, d1, d2, d3⟩ := hMG.Dual_ok
  refine gBindE d1 (gBindE hT ?_)
  have eD : D = KT := d2.toFam.ext hFT fun x => by
    rw [d3]
    constructor
    · rintro ⟨s, s1, rfl⟩
      obtain ⟨y, y1, rfl⟩ := (hrel s).1 s1
      rw [cpl_cpl ((hKT' y).1 y1).1]; exact y1
    · intro hx
      exact ⟨cpl N x, (hrel _).2 ⟨x, hx, rfl⟩, (cpl_cpl ((hKT' x).1 hx).1).symm⟩
  subst eD
  rw [if_pos ⟨⟨rfl, rfl⟩, rfl⟩, SameMatroid_self]
  exact gBindE rfl (gSome (by simp))
end Go.SH
