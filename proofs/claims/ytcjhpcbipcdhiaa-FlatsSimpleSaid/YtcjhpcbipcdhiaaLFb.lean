/-
  The law FlatsSimple: the flats of the simplification. Conditions: none.
-/
import Derived.Test.YtcjhpcbipcdhiaaLFa
import Derived.Test.YtcjhpcbipcdhiaaSkFlatsSimple
set_option linter.unusedSimpArgs false
set_option linter.unusedVariables false
namespace Go.SH
open Go Go.AX

/-! ### sums over a list -/
def lsum (f : Nat → Int) : List Nat → Int
  | [] => 0
  | a :: l => f a + lsum f l
theorem sumN_lsum (f : Nat → Int) : ∀ l : List Nat, sumN l.length (fun i => f (l.getD i 0)) = lsum f l
  | [] => rfl
  | a :: l => by
    rw [List.length_cons, show l.length + 1 = 1 + l.length by omega, sumN_split]
    show (0 + f a) + sumN l.length (fun i => f ((a :: l).getD (1 + i) 0)) = f a + lsum f l
    rw [← sumN_lsum f l, Int.zero_add]
    congr 1
    refine sumN_congr fun i _ => ?_
    rw [show 1 + i = i + 1 by omega]; rfl
theorem lsum_perm (f : Nat → Int) {l k : List Nat} (p : l.Perm k) : lsum f l = lsum f k := by
  induction p with
  | nil => rfl
  | cons x _ ih => simp only [lsum, ih]
  | swap x y l => simp only [lsum]; omega
  | trans _ _ ih1 ih2 => rw [ih1, ih2]
theorem lsum_map (f g : Nat → Nat) (h : Nat → Int) : ∀ l : List Nat, lsum h (l.map g) = lsum (fun a => h (g a)) l
  | [] => rfl
  | a :: l => by simp only [List.map_cons, lsum, lsum_map f g h l]

section
variable {m : Nat} {B : List Nat} (h : Mat m B)
include h
theorem Mat.flat_loop {F x : Nat} (hF : Flat m B F) (hx : x < m) (hr : rk m B (2 ^ x) = 0) : F.testBit x = true := by
  cases q : F.testBit x
  · exact absurd (h.rk_stay (inc_zero F) (by rw [Nat.zero_or, hr, h.rk_zero])) (hF x hx q)
  · rfl
theorem Mat.flat_par {F f x : Nat} (hF : Flat m B F) (hf : F.testBit f = true) (hx : x < m) (hp : Par m B f x) : F.testBit x = true := by
  cases q : F.testBit x
  · exact absurd (h.rk_stay (inc_pow hf) hp.2) (hF x hx q)
  · rfl
theorem Mat.last_full : (flats m B).getD ((flats m B).length - 1) 0 = 2 ^ m - 1 := by
  have hF := h.fam_flats
  have hne := h.flats_neF
  have hfull : 2 ^ m - 1 ∈ flats m B := mem_flats.2 ⟨full_lt m, fun i hi hb => by
    rw [Nat.testBit_two_pow_sub_one] at hb; simp [hi] at hb⟩
  obtain ⟨k, k1, k2⟩ := mem_getD.1 hfull
  have hl := (h.flat_at (show (flats m B).length - 1 < (flats m B).length by omega)).1
  rcases Nat.lt_or_ge k ((flats m B).length - 1) with c | c
  · have := hF.rise k _ c (by omega)
    omega
  · have : (flats m B).length - 1 = k := by omega
    rw [this]; exact k2
variable {g : Nat} (hg : ∀ x, x < m → (g.testBit x = true ↔ rk m B (2 ^ x) = 0 ∨ ∃ f, f < x ∧ Par m B f x))
include hg
theorem Mat.below {F : Nat} (hl : F < 2 ^ m) (hF : Flat m B F) : ∀ n x, x ≤ n → F.testBit x = true → rk m B (2 ^ x) = 0 ∨ ∃ f, F.testBit f = true ∧ g.testBit f = false ∧ Par m B f x := by
  intro n
  induction n with
  | zero =>
    intro x hx hb
    cases q : g.testBit x
    · exact .inr ⟨x, hb, q, Par.refl _ _ _⟩
    · rcases (hg x (bit_lt hl hb)).1 q with z | ⟨f, z, _⟩
      · exact .inl z
      · omega
  | succ n ih =>
    intro x hx hb
    cases q : g.testBit x
    · exact .inr ⟨x, hb, q, Par.refl _ _ _⟩
    · rcases (hg x (bit_lt hl hb)).1 q with z | ⟨f, z1, z2⟩
      · exact .inl z
      · have hfb := h.flat_par hF hb (Nat.lt_trans z1 (bit_lt hl hb)) z2.symm
        rcases ih f (by omega) hfb with w | ⟨f', w1, w2, w3⟩
        · exact .inl (by have := z2.1; omega)
        · exact .inr ⟨f', w1, w2, h.par_trans w3 z2⟩
theorem Mat.rk_out {F : Nat} (hl : F < 2 ^ m) (hF : Flat m B F) : rk m B (dif F g) = rk m B F := by
  refine Nat.le_antisymm (h.rk_mono (inc_dif _ _)) ?_
  have := h.rk_all (s := dif F g) (t := F) hl fun i hi => by
    rcases h.below hg hl hF i i (Nat.le_refl _) hi with z | ⟨f, z1, z2, z3⟩
    · exact h.rk_stay (inc_zero _) (by rw [Nat.zero_or, z, h.rk_zero])
    · exact h.rk_stay (inc_pow (by rw [testBit_dif, z1, z2]; rfl)) z3.2
  rw [← this]
  exact h.rk_mono (inc_or_r _ _)
theorem Mat.pk_inc {F G : Nat} (hl : F < 2 ^ m) (hF : Flat m B F) (hG : Flat m B G) : Inc (pk m g F) (pk m g G) ↔ Inc F G := by
  constructor
  · intro hi x hx
    have hxm := bit_lt hl hx
    rcases h.below hg hl hF x x (Nat.le_refl _) hx with z | ⟨f, z1, z2, z3⟩
    · exact h.flat_loop hG hxm z
    · have hfm := bit_lt hl z1
      have := hi (ps f g) (by rw [pk_at hfm z2]; exact z1)
      rw [pk_at hfm z2] at this
      exact h.flat_par hG this hxm z3
  · intro hi j hj
    obtain ⟨i, i1, i2, i3, i4⟩ := (pk_bit m g F j).1 hj
    exact (pk_bit m g G j).2 ⟨i, i1, i2, hi i i3, i4⟩
variable {K : List Nat} (hM : Mat (ps m g) K) (hK : ∀ x, x ∈ K ↔ ∃ b, MaxK m B (cpl m g) b ∧ x = pk m g b)
include hM hK
theorem Mat.pk_rk {F : Nat} (hl : F < 2 ^ m) (hF : Flat m B F) : rk (ps m g) K (pk m g F) = rk m B F := by
  have _ := hM
  rw [h.del_rk hK, h.rk_out hg hl hF]
theorem Mat.pk_flat {F : Nat} (hl : F < 2 ^ m) (hF : Flat m B F) : Flat (ps m g) K (pk m g F) := by
  have _ := hM
  have _ := hg
  intro j hj hb e
  obtain ⟨x, x1, x2, rfl⟩ := ps_ex hj
  rw [pk_at x1 x2] at hb
  rw [← pk_pow x1 x2, ← pk_or, h.del_rk hK, h.del_rk hK] at e
  have e1 : dif (F ||| 2 ^ x) g = dif F g ||| 2 ^ x := Nat.eq_of_testBit_eq fun i => by
    rw [testBit_dif, Nat.testBit_or, Nat.testBit_or, testBit_dif, testBit_pow]
    by_cases c : x = i
    · subst c; simp [x2]
    · simp [c]
  rw [e1] at e
  exact hF x x1 hb (h.rk_stay (inc_dif F g) e)
theorem Mat.pk_sur {G : Nat} (hl : G < 2 ^ ps m g) (hG : Flat (ps m g) K G) : ∃ F, F < 2 ^ m ∧ Flat m B F ∧ pk m g F = G := by
  have _ := hM
  have _ := hg
  have hXl := (up_inc m g G).lt (cpl_lt m g)
  have hXi := up_inc m g G
  have eX := pk_up hl
  generalize upS' m g G = X at *
  obtain ⟨F, hF⟩ := h.cl_exists hXl
  have hFf := h.cl_flat hXl hF
  refine ⟨F, hF.1, hFf, ?_⟩
  have hmono : ∀ A C, Inc A C → Inc (pk m g A) (pk m g C) := fun A C hi j hj => by
    obtain ⟨i, i1, i2, i3, i4⟩ := (pk_bit m g A j).1 hj
    exact (pk_bit m g C j).2 ⟨i, i1, i2, hi i i3, i4⟩
  have h1 := hmono _ _ (h.cl_inc hXl hF)
  rw [eX] at h1
  refine (Inc.antisymm h1 fun j hj => ?_).symm
  obtain ⟨i, i1, i2, i3, rfl⟩ := (pk_bit m g F j).1 hj
  cases q : G.testBit (ps i g)
  · exfalso
    refine hG _ (ps_lt i1 i2) q ?_
    have e0 : rk m B (X ||| 2 ^ i) = rk m B X := by
      rcases (hF.2 i i1).1 i3 with z | z
      · have : X ||| 2 ^ i = X := Nat.eq_of_testBit_eq fun k => by
          rw [Nat.testBit_or, testBit_pow]
          by_cases c : i = k
          · subst c; simp [z]
          · simp [c]
        rw [this]
      · exact z
    have hout : ∀ A, Inc A (cpl m g) → dif A g = A := fun A hA => Nat.eq_of_testBit_eq fun k => by
      rw [testBit_dif]
      cases q2 : A.testBit k
      · rfl
      · have := hA k q2
        rw [cpl_bit] at this
        simp only [Bool.and_eq_true, Bool.not_eq_true'] at this
        rw [this.2]; rfl
    have hi2 : Inc (2 ^ i) (cpl m g) := inc_pow (by rw [cpl_bit, i2]; simp [i1])
    rw [← eX, ← pk_pow i1 i2, ← pk_or, h.del_rk hK, h.del_rk hK, hout _ hXi, hout _ (inc_or hXi hi2)]
    exact e0
  · rfl
theorem Mat.pk_perm : ((flats m B).map (pk m g)).Perm (flats (ps m g) K) := by
  refine (List.perm_ext_iff_of_nodup ?_ hM.fam_flats.nodupP).2 fun t => ?_
  · unfold List.Nodup
    rw [List.pairwise_map]
    refine List.Pairwise.imp_of_mem (fun {a b} ha hb hne e => hne ?_) h.fam_flats.nodupP
    obtain ⟨a1, a2⟩ := mem_flats.1 ha
    obtain ⟨b1, b2⟩ := mem_flats.1 hb
    exact Inc.antisymm ((h.pk_inc hg a1 a2 b2).1 (by rw [e]; exact Inc.refl _)) ((h.pk_inc hg b1 b2 a2).1 (by rw [e]; exact Inc.refl _))
  · rw [List.mem_map, mem_flats]
    constructor
    · rintro ⟨F, hF, rfl⟩
      obtain ⟨a1, a2⟩ := mem_flats.1 hF
      exact ⟨pk_lt m g F, h.pk_flat hg hM hK a1 a2⟩
    · rintro ⟨t1, t2⟩
      obtain ⟨F, f1, f2, f3⟩ := h.pk_sur hg hM hK t1 t2
      exact ⟨F, mem_flats.2 ⟨f1, f2⟩, f3⟩
theorem Mat.sum_iso (f : Nat → Int) : sumN (flats (ps m g) K).length (fun j => f ((flats (ps m g) K).getD j 0)) = sumN (flats m B).length (fun i => f (pk m g ((flats m B).getD i 0))) := by
  rw [sumN_lsum f, ← lsum_perm f (h.pk_perm hg hM hK), lsum_map id (pk m g) f, ← sumN_lsum (fun a => f (pk m g a))]
theorem Mat.len_iso : (flats (ps m g) K).length = (flats m B).length := by
  rw [← (h.pk_perm hg hM hK).length_eq, List.length_map]
theorem Mat.rkt_iso : rk (ps m g) K (2 ^ ps m g - 1) = rk m B (2 ^ m - 1) := by
  rw [← pk_full]
  exact h.pk_rk hg hM hK (full_lt m) fun i hi hb => by rw [full_bit] at hb; simp [hi] at hb
theorem Mat.lev_iso : lev (ps m g) K = lev m B := by
  unfold lev
  rw [h.rkt_iso hg hM hK]
  refine List.map_congr_left fun j _ => ?_
  rw [← (h.pk_perm hg hM hK).countP_eq, List.countP_map]
  congr 1
  refine List.countP_congr fun s hs => ?_
  obtain ⟨a1, a2⟩ := mem_flats.1 hs
  simp only [Function.comp, h.pk_rk hg hM hK a1 a2]
theorem Mat.chR_iso : ∀ r s, s < 2 ^ m → Flat m B s → chR (ps m g) K r (pk m g s) = chR m B r s := by
  intro r
  induction r with
  | zero => intro s _ _; rfl
  | succ r ih =>
    intro s hs hf
    show sumN _ (fun j => _) = sumN _ (fun j => _)
    rw [h.sum_iso hg hM hK (fun t => if Inc t (pk m g s) ∧ rk (ps m g) K t = r then chR (ps m g) K r t else 0)]
    refine sumN_congr fun i hi => ?_
    obtain ⟨a1, a2⟩ := h.flat_at hi
    have e1 := h.pk_inc hg a1 a2 hf
    have e2 := h.pk_rk hg hM hK a1 a2
    by_cases z : Inc ((flats m B).getD i 0) s ∧ rk m B ((flats m B).getD i 0) = r
    · rw [if_pos ⟨e1.2 z.1, by omega⟩, if_pos z, ih _ a1 a2]
    · rw [if_neg fun w => z ⟨e1.1 w.1, by omega⟩, if_neg z]
theorem Mat.chain_iso : (chL (ps m g) K).getD ((flats (ps m g) K).length - 1) 0 = (chL m B).getD ((flats m B).length - 1) 0 := by
  have n1 := h.flats_neF
  have n2 := hM.flats_neF
  have e1 := h.last_full
  have hff : Flat m B (2 ^ m - 1) := fun i hi hb => by rw [full_bit] at hb; simp [hi] at hb
  have e2 : (flats (ps m g) K).getD ((flats (ps m g) K).length - 1) 0 = pk m g (2 ^ m - 1) := by rw [hM.last_full, pk_full]
  rw [chL_get (by omega), chL_get (by omega), e1, e2, h.pk_rk hg hM hK (full_lt m) hff, h.chR_iso hg hM hK _ _ (full_lt m) hff]
/-- The numbers of MOEBIUS, by sets. -/
theorem Mat.mob_iso : ∀ n i, i ≤ n → i < (flats m B).length → ∀ j, j < (flats (ps m g) K).length → (flats (ps m g) K).getD j 0 = pk m g ((flats m B).getD i 0) → mob (flats (ps m g) K) j = mob (flats m B) i := by
  have hF := h.fam_flats
  have hG := hM.fam_flats
  have hlen := h.len_iso hg hM hK
  -- by sets
  have byset : ∀ j, j < (flats (ps m g) K).length → sumN (flats (ps m g) K).length (fun b => if (flats (ps m g) K).getD b 0 = (flats (ps m g) K).getD j 0 then mob (flats (ps m g) K) b else 0) = mob (flats (ps m g) K) j := fun j hj => by
    rw [sumN_congr (h := fun b => if b = j then mob (flats (ps m g) K) j else 0) fun b hb => ?_, sumN_single _ _ _ hj]
    by_cases c : b = j
    · subst c; rw [if_pos rfl, if_pos rfl]
    · rw [if_neg fun e => c (Nat.le_antisymm (hG.idx hb hj (by omega)) (hG.idx hj hb (by omega))), if_neg c]
  have one : ∀ i, i < (flats m B).length → (∀ a, a < i → ∀ b, b < (flats (ps m g) K).length → (flats (ps m g) K).getD b 0 = pk m g ((flats m B).getD a 0) → mob (flats (ps m g) K) b = mob (flats m B) a) →
      ∀ j, j < (flats (ps m g) K).length → (flats (ps m g) K).getD j 0 = pk m g ((flats m B).getD i 0) → mob (flats (ps m g) K) j = mob (flats m B) i := by
    intro i hi ih j hj ej
    obtain ⟨f1, f2⟩ := h.flat_at hi
    have w1 := hF.weisner hi
    have w2 := hG.weisner hj
    obtain ⟨f, hf⟩ : ∃ f : Nat → Int, ∀ t, f t = if Inc t ((flats (ps m g) K).getD j 0) then sumN (flats (ps m g) K).length (fun b => if (flats (ps m g) K).getD b 0 = t then mob (flats (ps m g) K) b else 0) else 0 := ⟨_, fun _ => rfl⟩
    have e1 : ∀ b, b < (flats (ps m g) K).length → (if Inc ((flats (ps m g) K).getD b 0) ((flats (ps m g) K).getD j 0) then mob (flats (ps m g) K) b else 0) = f ((flats (ps m g) K).getD b 0) := fun b hb => by
      rw [hf, byset b hb]
    rw [sumN_congr e1, h.sum_iso hg hM hK f] at w2
    have at' : ∀ a, a < (flats m B).length → ∃ b, b < (flats (ps m g) K).length ∧ (flats (ps m g) K).getD b 0 = pk m g ((flats m B).getD a 0) := fun a ha => by
      obtain ⟨a1, a2⟩ := h.flat_at ha
      exact mem_getD.1 (mem_flats.2 ⟨pk_lt m g _, h.pk_flat hg hM hK a1 a2⟩)
    have e2 : ∀ a, a < (flats m B).length → f (pk m g ((flats m B).getD a 0)) = (if Inc ((flats m B).getD a 0) ((flats m B).getD i 0) then mob (flats m B) a else 0) + if a = i then mob (flats (ps m g) K) j - mob (flats m B) i else 0 := fun a ha => by
      obtain ⟨a1, a2⟩ := h.flat_at ha
      obtain ⟨b, b1, b2⟩ := at' a ha
      have hi2 := h.pk_inc hg a1 a2 f2
      rw [hf, ej]
      by_cases z : Inc ((flats m B).getD a 0) ((flats m B).getD i 0)
      · rw [if_pos (hi2.2 z), if_pos z, ← b2, byset b b1]
        have hai := hF.inc_idx ha hi z
        rcases Nat.lt_or_ge a i with c | c
        · rw [ih a c b b1 b2, if_neg (by omega)]; omega
        · have e : a = i := by omega
          subst e
          have : b = j := Nat.le_antisymm (hG.idx b1 hj (by omega)) (hG.idx hj b1 (by omega))
          rw [this, if_pos rfl]; omega
      · rw [if_neg fun w => z (hi2.1 w), if_neg z, if_neg fun e => z (by rw [e]; exact Inc.refl _)]; rfl
    rw [sumN_congr e2, sumN_add, sumN_single _ _ _ hi, w1] at w2
    have e3 : i = 0 ↔ j = 0 := by
      have er := h.pk_rk hg hM hK f1 f2
      rw [← ej] at er
      constructor
      · rintro rfl
        exact hM.rk0_one hj (by omega) (by rw [er]; exact h.bot_rk hi) (hM.bot_rk (by omega))
      · rintro rfl
        exact h.rk0_one hi (by omega) (by rw [← er]; exact hM.bot_rk hj) (h.bot_rk (by omega))
    by_cases c : i = 0
    · rw [if_pos c, if_pos (e3.1 c)] at w2; omega
    · rw [if_neg c, if_neg fun z => c (e3.2 z)] at w2; omega
  intro n
  induction n with
  | zero => exact fun i h1 h2 => one i h2 fun a ha => absurd ha (by omega)
  | succ n ih => exact fun i h1 h2 => one i h2 fun a ha => ih a (by omega) (by omega)
end
theorem Mobius_okF {m : Nat} {B : List Nat} (h : Mat m B) : flats_Mobius m (cs B) = some (mobL (flats m B) (flats m B).length, 0) := by
  have hsub : (flats m B).Sublist (List.range (2 ^ m)) := List.filter_sublist
  unfold flats_Mobius
  rw [flats_of_ok h, Option.bind_some, if_neg (by simp), mobius_ok h.fam_flats hsub]; rfl
theorem Simple_bad {n : Int} {l : List Int} {c : Int} (h : axioms_Check n l = some c) (h0 : c ≠ 0) : minors_Simple n l = some (0, [], c) := by
  have e1 : axioms_Ranks n l = some ([], c) := by unfold axioms_Ranks; rw [h]; simp [h0]
  have e2 : minors_Classes n l = some ([], c) := by unfold minors_Classes; rw [e1, Option.bind_some, if_pos h0]
  unfold minors_Simple
  rw [e2, Option.bind_some, if_pos h0]
theorem mat12 : Mat 2 [1, 2] := ⟨⟨by omega, by decide, rise_small (by decide)⟩, by decide, by decide, ex_small (m := 2) (by decide) (by decide)⟩
theorem lev12 : lev 2 [1, 2] = [1, 1] := by decide +kernel
theorem rotakeep_FlatsSimple_law (n : Int) (l : List Int) (hl : l.length ≤ 9223372036854775807) : rotakeep_FlatsSimple n l = some true := by
  refine Gets.eq ?_
  unfold rotakeep_FlatsSimple
  have h12 := Levels_ok mat12
  rw [lev12] at h12
  refine gBindE h12 (gIte (fun _ => ?_) fun q => absurd (by simp) q)
  refine gBindE (SameB _) (gIte (fun q => absurd rfl q) fun _ => ?_)
  obtain ⟨c, hc, hs⟩ := axioms_Check_spec n l hl
  rcases hs with ⟨rfl, m, B, rfl, rfl, h⟩ | ⟨h0, _⟩
  rotate_left
  · refine gBindE (a := ([], c)) (by unfold flats_Levels; rw [flats_of_bad hc h0, Option.bind_some, if_pos h0]) (gBindE (Simple_bad hc h0) (gIte (fun _ => gSome (by simp)) fun q => absurd h0 q))
  obtain ⟨g, K, k1, k2, k3, k4, k5⟩ := Simple_ok h
  refine gBindE (Levels_ok h) (gBindE k1 (gIte (fun q => absurd rfl q) fun _ => gBindE (Levels_ok k4) (gBindE (Chains_ok h) (gBindE (Chains_ok k4) (gBindE (Mobius_okF h) (gBindE (Mobius_okF k4) ?_))))))
  refine gBindE (a := true) (by rw [if_pos (by simp), h.lev_iso k3 k4 k5]; exact SameB _) ?_
  have n1 := h.flats_neF
  have n2 := k4.flats_neF
  have len := h.len_iso k3 k4 k5
  have hlen := h.fam_flats.len
  simp only [mobL_len]
  have e1 : (((flats m B).length : Int) - 1).toNat = (flats m B).length - 1 := by omega
  have e2 : (((flats (ps m g) K).length : Int) - 1).toNat = (flats (ps m g) K).length - 1 := by omega
  refine gChk ⟨fun _ => by omega, fun _ => by omega, fun _ => by omega, fun _ => by omega⟩ (gSome ?_)
  rw [decide_eq_true_eq, e1, e2, mobL_get _ (by omega), mobL_get _ (by omega)]
  have hff : Flat m B (2 ^ m - 1) := fun i hi hb => by rw [full_bit] at hb; simp [hi] at hb
  refine ⟨⟨⟨by simp, (h.chain_iso k3 k4 k5).symm⟩, by rw [len]⟩, (h.mob_iso k3 k4 k5 _ ((flats m B).length - 1) (Nat.le_refl _) (by omega) ((flats (ps m g) K).length - 1) (by omega) ?_).symm⟩
  rw [h.last_full, pk_full]
  exact k4.last_full
end Go.SH
