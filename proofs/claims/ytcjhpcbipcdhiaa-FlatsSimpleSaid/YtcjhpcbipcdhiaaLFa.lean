/-
  Levels and greatest chains of the flats, as they are computed. Conditions: none.
-/
import Derived.Test.YtcjhpcbipcdhiaaLPb
import Derived.Test.YtcjhpcbipcdhiaaLI
import Derived.Test.YtcjhpcbipcdhiaaLWa
set_option linter.unusedSimpArgs false
set_option linter.unusedVariables false
namespace Go.SH
open Go Go.AX

theorem rank_okF {m : Nat} (B : List Nat) (h8 : m ≤ 8) (l0 : Int) (l2 : List Int) : flats_lattice_rank l0 l2 (cs (rkL m B)) = some ((rk m B (2 ^ m - 1) : Nat) : Int) := by
  have h256 := pow_le8 h8
  have hpos : 0 < 2 ^ m := Nat.pow_pos (by omega)
  unfold flats_lattice_rank
  simp only [cs_len, rkL_len]
  have e1 : (((2 ^ m : Nat) : Int) - 1).toNat = 2 ^ m - 1 := by omega
  rw [chk_pos (by omega), e1, cs_get, rkL_get m B (by omega)]
def lev (m : Nat) (B : List Nat) : List Int := (List.range (rk m B (2 ^ m - 1) + 1)).map fun j => (((flats m B).countP fun s => decide (rk m B s = j) : Nat) : Int)
theorem lev_len (m : Nat) (B : List Nat) : (lev m B).length = rk m B (2 ^ m - 1) + 1 := by simp [lev]
/-- The chains that end at a set of rank r. -/
def chR (m : Nat) (B : List Nat) : Nat → Nat → Int
  | 0, _ => 1
  | r + 1, s => sumN (flats m B).length fun j => if Inc ((flats m B).getD j 0) s ∧ rk m B ((flats m B).getD j 0) = r then chR m B r ((flats m B).getD j 0) else 0
section
variable {m : Nat} {B : List Nat} (h : Mat m B)
include h
theorem Mat.fam_flats : Fam m (flats m B) := filter_fam h.m8 _
theorem Mat.flat_at {k : Nat} (hk : k < (flats m B).length) : (flats m B).getD k 0 < 2 ^ m ∧ Flat m B ((flats m B).getD k 0) := have _ := h; mem_flats.1 (mem_getD.2 ⟨k, hk, rfl⟩)
theorem Mat.rk_top {s : Nat} (hs : s < 2 ^ m) : rk m B s ≤ rk m B (2 ^ m - 1) := h.rk_mono (full_inc hs)
theorem Mat.rk_m8 : rk m B (2 ^ m - 1) ≤ 8 := by
  have := h.rk_size (2 ^ m - 1)
  have := cnt_le m (2 ^ m - 1)
  have := h.m8
  omega
theorem Levels_ok : flats_Levels m (cs B) = some (lev m B, 0) := by
  have h8 := h.m8
  have hF := h.fam_flats
  have hlen := hF.len
  have hR := h.rk_m8
  refine Gets.eq ?_
  unfold flats_Levels
  refine gBindE (flats_of_ok h) (gIte (fun q => absurd rfl q) fun _ => gBindE (rank_okF B h8 _ _) (gChk (by omega) ?_))
  have e1 : (((rk m B (2 ^ m - 1) : Nat) : Int) + 1).toNat = rk m B (2 ^ m - 1) + 1 := by omega
  rw [e1]
  refine gBind (R := fun o => o = lev m B) (gFor (flats m B).length (fun k (x : List Int × Int) => x.2 = (k : Int) ∧ x.1.length = rk m B (2 ^ m - 1) + 1 ∧ ∀ j, j < rk m B (2 ^ m - 1) + 1 → x.1.getD j 0 = ((((flats m B).take k).countP (fun s => decide (rk m B s = j)) : Nat) : Int)) (Nat.zero_le _) ⟨rfl, by simp, fun j hj => by
      rw [List.getD_eq_getElem?_getD, List.getElem?_replicate]; simp [hj]⟩ ?_) fun o ho => gSome (by rw [ho])
  rintro k ⟨v, _⟩ hk ⟨rfl, i1, i2⟩
  simp only [cs_len, cs_get, toNat_nat, rkL_len] at i1 i2 ⊢
  refine gIte (fun h1 => gChk (by omega) ?_) fun h1 => gSome ?_
  · have hk' : k < (flats m B).length := by omega
    obtain ⟨n1, n2⟩ := h.flat_at hk'
    have etake : (flats m B).take (k + 1) = (flats m B).take k ++ [(flats m B).getD k 0] := by
      rw [List.take_add_one, List.getD_eq_getElem?_getD, List.getElem?_eq_getElem hk']; rfl
    have hj := h.rk_top n1
    simp only [rkL_get m B n1]
    have eN := i2 _ (show rk m B ((flats m B).getD k 0) < _ by omega)
    have hcp := List.countP_le_length (p := fun s => decide (rk m B s = rk m B ((flats m B).getD k 0))) (l := (flats m B).take k)
    have htl := List.length_take_le k (flats m B)
    rw [eN]
    refine gChk (by omega) (gSome ⟨hk', by simp, by simp [i1], fun j hj2 => ?_⟩)
    show (v.set _ _).getD j 0 = _
    rw [set_getD _ (by omega), etake, List.countP_append, List.countP_cons, List.countP_nil]
    by_cases e : j = rk m B ((flats m B).getD k 0)
    · rw [if_pos e, if_pos (by simp [e]), e]; omega
    · rw [if_neg e, if_neg (by simpa using fun x => e x.symm), i2 j hj2]; omega
  · have e : k = (flats m B).length := by omega
    subst e
    refine list_ext_getD (by rw [i1, lev_len]) fun j hj => ?_
    rw [i1] at hj
    rw [i2 j hj, List.take_length]
    unfold lev
    rw [List.getD_eq_getElem?_getD, List.getElem?_map, List.getElem?_range hj]
    rfl
/-! ### chains -/
theorem Mat.rk0_iff {s : Nat} (hs : s < 2 ^ m) (hf : Flat m B s) (h0 : rk m B s = 0) {x : Nat} (hx : x < m) : s.testBit x = true ↔ rk m B (2 ^ x) = 0 := by
  constructor
  · intro z
    have := h.rk_mono (inc_pow z)
    omega
  · intro z
    cases q : s.testBit x
    · exfalso
      refine hf x hx q ?_
      exact h.rk_stay (inc_zero s) (by rw [Nat.zero_or, z, h.rk_zero])
    · rfl
theorem Mat.rk0_one {i j : Nat} (hi : i < (flats m B).length) (hj : j < (flats m B).length) (h1 : rk m B ((flats m B).getD i 0) = 0) (h2 : rk m B ((flats m B).getD j 0) = 0) : i = j := by
  obtain ⟨a1, a2⟩ := h.flat_at hi
  obtain ⟨b1, b2⟩ := h.flat_at hj
  have e : (flats m B).getD i 0 = (flats m B).getD j 0 := set_ext a1 b1 fun x hx => by
    rw [Bool.eq_iff_iff, h.rk0_iff a1 a2 h1 hx, h.rk0_iff b1 b2 h2 hx]
  have hF := h.fam_flats
  exact Nat.le_antisymm (hF.idx hi hj (by omega)) (hF.idx hj hi (by omega))
theorem Mat.bot_rk (hne : 0 < (flats m B).length) : rk m B ((flats m B).getD 0 0) = 0 := by
  have hF := h.fam_flats
  have hpos : 0 < 2 ^ m := Nat.pow_pos (by omega)
  obtain ⟨c, hc⟩ := h.cl_exists hpos
  obtain ⟨j, j1, j2⟩ := mem_getD.1 (mem_flats.2 ⟨hc.1, h.cl_flat hpos hc⟩)
  have hr := h.cl_rk hpos hc
  rw [h.rk_zero] at hr
  obtain ⟨a1, a2⟩ := h.flat_at hne
  have : Inc c ((flats m B).getD 0 0) := fun i hi => (h.cl_iff hpos hc (bit_lt hc.1 hi)).1 hi _ a1 a2 (inc_zero _)
  rw [← j2] at this
  have := hF.inc_idx j1 hne this
  have e : j = 0 := by omega
  subst e
  rw [j2]; exact hr
theorem Mat.flats_neF : 0 < (flats m B).length := by
  have : 2 ^ m - 1 ∈ flats m B := mem_flats.2 ⟨full_lt m, fun i hi hb => by
    rw [Nat.testBit_two_pow_sub_one] at hb; simp [hi] at hb⟩
  have _ := h
  exact List.length_pos_of_mem this
omit h in
theorem chR_pos : ∀ r s, 0 ≤ chR m B r s
  | 0, s => by simp [chR]
  | r + 1, s => by
    show 0 ≤ sumN _ _
    have := sumN_le (n := (flats m B).length) (g := fun _ => (0 : Int)) (h := fun j => if Inc ((flats m B).getD j 0) s ∧ rk m B ((flats m B).getD j 0) = r then chR m B r ((flats m B).getD j 0) else 0) fun j _ => by
      have := chR_pos r ((flats m B).getD j 0)
      split <;> omega
    rw [sumN_zero] at this
    exact this
theorem Mat.chR_le : ∀ r s, chR m B (r + 1) s ≤ ((256 ^ r : Nat) : Int)
  | 0, s => by
    show sumN _ _ ≤ _
    rcases Classical.em (∃ j, j < (flats m B).length ∧ rk m B ((flats m B).getD j 0) = 0) with ⟨j0, j1, j2⟩ | q
    · have := sumN_le (n := (flats m B).length) (g := fun j => if Inc ((flats m B).getD j 0) s ∧ rk m B ((flats m B).getD j 0) = 0 then chR m B 0 ((flats m B).getD j 0) else 0) (h := fun j => if j = j0 then (1 : Int) else 0) fun j hj => by
        by_cases c : Inc ((flats m B).getD j 0) s ∧ rk m B ((flats m B).getD j 0) = 0
        · rw [if_pos c, if_pos (h.rk0_one hj j1 c.2 j2)]; simp [chR]
        · rw [if_neg c]; split <;> omega
      rw [sumN_single _ _ _ j1] at this
      exact this
    · rw [sumN_congr (h := fun _ => (0 : Int)) fun j hj => if_neg fun z => q ⟨j, hj, z.2⟩, sumN_zero]
      simp
  | r + 1, s => by
    have hlen := h.fam_flats.len
    show sumN _ _ ≤ _
    have b := sumN_abs (n := (flats m B).length) (g := fun j => if Inc ((flats m B).getD j 0) s ∧ rk m B ((flats m B).getD j 0) = r + 1 then chR m B (r + 1) ((flats m B).getD j 0) else 0) (c := ((256 ^ r : Nat) : Int)) fun j _ => by
      have b1 := chR_pos (m := m) (B := B) (r + 1) ((flats m B).getD j 0)
      have b2 := Mat.chR_le r ((flats m B).getD j 0)
      split <;> omega
    have e : ((256 ^ (r + 1) : Nat) : Int) = 256 * ((256 ^ r : Nat) : Int) := by rw [Nat.pow_succ, Nat.mul_comm, Int.natCast_mul]; rfl
    have b3 : ((flats m B).length : Int) * ((256 ^ r : Nat) : Int) ≤ 256 * ((256 ^ r : Nat) : Int) := Int.mul_le_mul_of_nonneg_right (by omega) (Int.natCast_nonneg _)
    rw [e]
    exact Int.le_trans b.2 b3
theorem Mat.chR_small {r : Nat} (hr : r ≤ 7) (s : Nat) : 0 ≤ chR m B r s ∧ chR m B r s ≤ 281474976710656 := by
  refine ⟨chR_pos (m := m) (B := B) r s, ?_⟩
  cases r with
  | zero => simp [chR]
  | succ r =>
    have h1 := h.chR_le r s
    have h2 : (256 : Nat) ^ r ≤ 256 ^ 6 := Nat.pow_le_pow_right (by omega) (by omega)
    have h3 : (256 : Nat) ^ 6 = 281474976710656 := by decide
    omega
/-- The numbers up to k are there, x at k, nothing behind. -/
structure CB (B' : List Int) (N k : Nat) (x : Int) (out : List Int) : Prop where
  len : out.length = N
  lo : ∀ i, i < k → out.getD i 0 = B'.getD i 0
  at_ : k < N → out.getD k 0 = x
  hi : ∀ i, k < i → i < N → out.getD i 0 = 0
omit h in
theorem CB.set {B' : List Int} {N k : Nat} {x : Int} {out : List Int} (h : CB B' N k x out) (hk : k < N) (y : Int) : CB B' N k y (out.set k y) := by
  have hk' : k < out.length := by rw [h.len]; exact hk
  refine ⟨by simp [h.len], fun i hi => ?_, fun _ => ?_, fun i hi hn => ?_⟩
  · rw [set_getD _ hk', if_neg (by omega)]; exact h.lo i hi
  · rw [set_getD _ hk', if_pos rfl]
  · rw [set_getD _ hk', if_neg (by omega)]; exact h.hi i hi hn
omit h in
theorem CB.next {B' : List Int} {N k : Nat} {out : List Int} (h : CB B' N k (B'.getD k 0) out) (hk : k < N) : CB B' N (k + 1) 0 out :=
  ⟨h.len, fun i hi => by
    rcases Nat.lt_succ_iff_lt_or_eq.1 hi with c | rfl
    · exact h.lo i c
    · exact h.at_ hk, fun hk1 => h.hi _ (by omega) hk1, fun i hi hn => h.hi i (by omega) hn⟩
/-- The chains that end at each flat. -/
def chL (m : Nat) (B : List Nat) : List Int := (flats m B).map fun s => chR m B (rk m B s) s
omit h in
theorem chL_get {k : Nat} (hk : k < (flats m B).length) : (chL m B).getD k 0 = chR m B (rk m B ((flats m B).getD k 0)) ((flats m B).getD k 0) := by
  unfold chL
  rw [List.getD_eq_getElem?_getD, List.getElem?_map, List.getElem?_eq_getElem hk, List.getD_eq_getElem?_getD, List.getElem?_eq_getElem hk]; rfl
/-- What has been added of the chains below. -/
def chP (m : Nat) (B : List Nat) (k j : Nat) : Int := (if k = 0 then 1 else 0) + sumN j fun i => if Inc ((flats m B).getD i 0) ((flats m B).getD k 0) ∧ rk m B ((flats m B).getD i 0) + 1 = rk m B ((flats m B).getD k 0) then (chL m B).getD i 0 else 0
theorem Mat.chP_all {k : Nat} (hk : k < (flats m B).length) : chP m B k k = (chL m B).getD k 0 := by
  have hF := h.fam_flats
  rw [chL_get hk]
  unfold chP
  rcases Nat.eq_zero_or_pos k with c | c
  · subst c
    rw [h.bot_rk hk]; simp [sumN, chR]
  · rw [if_neg (by omega), Int.zero_add]
    have hr : rk m B ((flats m B).getD k 0) ≠ 0 := fun z => by
      have := h.rk0_one hk (by omega) z (h.bot_rk (by omega))
      omega
    obtain ⟨r, er⟩ : ∃ r, rk m B ((flats m B).getD k 0) = r + 1 := ⟨rk m B ((flats m B).getD k 0) - 1, by omega⟩
    rw [er]
    show _ = sumN (flats m B).length _
    have e1 : (flats m B).length = k + ((flats m B).length - k) := by omega
    rw [e1, sumN_split]
    have e2 : sumN ((flats m B).length - k) (fun i => if Inc ((flats m B).getD (k + i) 0) ((flats m B).getD k 0) ∧ rk m B ((flats m B).getD (k + i) 0) = r then chR m B r ((flats m B).getD (k + i) 0) else 0) = 0 := by
      rw [sumN_congr (h := fun _ => (0 : Int)) fun i hi => if_neg ?_, sumN_zero]
      rintro ⟨z1, z2⟩
      have := hF.inc_idx (by omega) hk z1
      have : k + i = k := by omega
      rw [this] at z2
      omega
    rw [e2, Int.add_zero]
    refine sumN_congr fun i hi => ?_
    by_cases z : Inc ((flats m B).getD i 0) ((flats m B).getD k 0) ∧ rk m B ((flats m B).getD i 0) = r
    · rw [if_pos ⟨z.1, by omega⟩, if_pos z, chL_get (by omega), z.2]
    · rw [if_neg (fun w => z ⟨w.1, by omega⟩), if_neg z]
theorem Mat.chP_small {k j : Nat} (hk : k < (flats m B).length) (hj : j ≤ k) : 0 ≤ chP m B k j ∧ chP m B k j ≤ 1 + 256 * 281474976710656 := by
  have hlen := h.fam_flats.len
  have hR := h.rk_m8
  have hk2 := h.rk_top (h.flat_at hk).1
  have tb : ∀ i, i < j → 0 ≤ (if Inc ((flats m B).getD i 0) ((flats m B).getD k 0) ∧ rk m B ((flats m B).getD i 0) + 1 = rk m B ((flats m B).getD k 0) then (chL m B).getD i 0 else 0) ∧ (if Inc ((flats m B).getD i 0) ((flats m B).getD k 0) ∧ rk m B ((flats m B).getD i 0) + 1 = rk m B ((flats m B).getD k 0) then (chL m B).getD i 0 else 0) ≤ 281474976710656 := fun i hi => by
    by_cases z : Inc ((flats m B).getD i 0) ((flats m B).getD k 0) ∧ rk m B ((flats m B).getD i 0) + 1 = rk m B ((flats m B).getD k 0)
    · rw [if_pos z, chL_get (by omega)]
      exact h.chR_small (by omega) _
    · rw [if_neg z]; omega
  have b1 := sumN_abs (n := j) (c := 281474976710656) fun i hi => by
    have := tb i hi
    exact ⟨by omega, this.2⟩
  have b2 := sumN_le (n := j) (g := fun _ => (0 : Int)) fun i hi => (tb i hi).1
  rw [sumN_zero] at b2
  have b3 : (j : Int) * 281474976710656 ≤ 256 * 281474976710656 := Int.mul_le_mul_of_nonneg_right (by omega) (by omega)
  unfold chP
  constructor
  · split <;> omega
  · split <;> omega
theorem Chains_ok : flats_Chains m (cs B) = some ((chL m B).getD ((flats m B).length - 1) 0, 0) := by
  have h8 := h.m8
  have hF := h.fam_flats
  have hlen := hF.len
  have hne := h.flats_neF
  have hR := h.rk_m8
  refine Gets.eq ?_
  unfold flats_Chains
  refine gBindE (flats_of_ok h) (gIte (fun q => absurd rfl q) fun _ => ?_)
  simp only [cs_len]
  have e0 : (((flats m B).length : Int)).toNat = (flats m B).length := rfl
  rw [e0]
  refine gChk (by omega) (gBind (R := fun o => CB (chL m B) (flats m B).length (flats m B).length 0 o)
    (gFor (flats m B).length (fun k (x : List Int × Int) => x.2 = (k : Int) ∧ CB (chL m B) (flats m B).length k 0 x.1) (Nat.zero_le _) ⟨rfl, by simp, fun i hi => absurd hi (Nat.not_lt_zero i), fun hi => by
      rw [List.getD_eq_getElem?_getD, List.getElem?_replicate]; simp [hi], fun i _ hi => by
      rw [List.getD_eq_getElem?_getD, List.getElem?_replicate]; simp [hi]⟩ ?_) ?_)
  · rintro k ⟨v, _⟩ hk ⟨rfl, hv⟩
    simp only at hv
    refine gIte (fun h1 => gChk (by omega) ?_) fun h1 => gSome (by have e : k = (flats m B).length := (by omega); subst e; exact hv)
    have hk' : k < (flats m B).length := by omega
    refine gJoin (R := fun o => CB (chL m B) (flats m B).length k (if k = 0 then 1 else 0) o) (fun v3 h3 => ?_) fun j hj => ?_
    · obtain ⟨f1, f2⟩ := h.flat_at hk'
      refine gChk (by omega) (gBind (R := fun o => CB (chL m B) (flats m B).length k ((chL m B).getD k 0) o)
        (gFor k (fun j (x : List Int × Int) => x.2 = (j : Int) ∧ CB (chL m B) (flats m B).length k (chP m B k j) x.1) (Nat.zero_le _) ⟨rfl, by
          have e : chP m B k 0 = if k = 0 then 1 else 0 := by unfold chP; simp [sumN]
          rw [e]; exact h3⟩ ?_) fun o ho => gSome ⟨hk', by simp, ho.next hk'⟩)
      rintro j ⟨u, _⟩ hj ⟨rfl, hu⟩
      simp only at hu
      simp only [toNat_nat, cs_get, rkL_len, cs_len, and_nat]
      refine gIte (fun h2 => ?_) fun h2 => gSome (by
        have e : j = k := (by omega)
        subst e; rw [h.chP_all hk'] at hu; exact hu)
      have hj' : j < k := by omega
      obtain ⟨g1, g2⟩ := h.flat_at (show j < (flats m B).length by omega)
      have l1 := h.rk_top f1
      have l2 := h.rk_top g1
      simp only [rkL_get m B f1, rkL_get m B g1]
      have hinc : ((flats m B).getD j 0 &&& (flats m B).getD k 0 = (flats m B).getD j 0) ↔ Inc ((flats m B).getD j 0) ((flats m B).getD k 0) := sub_iff_and _ _
      have hlt := hF.rise j k hj' hk'
      have a1 := hu.at_ hk'
      have a2 := hu.lo j hj'
      have hul := hu.len
      have b1 := h.chP_small hk' (show j ≤ k by omega)
      refine gChk (by omega) (gChk ⟨fun _ => by omega, fun _ => by omega, fun _ => by omega⟩ (gIte (fun z => ?_) fun z => gSome ⟨hj', by simp, ?_⟩))
      · have hc : Inc ((flats m B).getD j 0) ((flats m B).getD k 0) ∧ rk m B ((flats m B).getD j 0) + 1 = rk m B ((flats m B).getD k 0) := ⟨hinc.1 (by omega), by omega⟩
        have b2 := h.chR_small (r := rk m B ((flats m B).getD j 0)) (by omega) ((flats m B).getD j 0)
        have e2 := chL_get (m := m) (B := B) (show j < (flats m B).length by omega)
        simp only [a1, a2, e2]
        refine gChk (by omega) (gSome ⟨hj', by simp, ?_⟩)
        have e : chP m B k (j + 1) = chP m B k j + chR m B (rk m B ((flats m B).getD j 0)) ((flats m B).getD j 0) := by
          unfold chP
          simp only [sumN]
          rw [if_pos hc, e2]; omega
        rw [e]
        exact hu.set hk' _
      · have hc : ¬ (Inc ((flats m B).getD j 0) ((flats m B).getD k 0) ∧ rk m B ((flats m B).getD j 0) + 1 = rk m B ((flats m B).getD k 0)) := fun w => z ⟨by have := hinc.2 w.1; omega, by omega⟩
        have e : chP m B k (j + 1) = chP m B k j := by
          unfold chP
          simp only [sumN]
          rw [if_neg hc]; omega
        rw [e]
        exact hu
    · refine gIte (fun z => gChk (by have := hv.len; simp only at z ⊢; omega) (hj _ ?_)) fun z => hj _ ?_
      · have : k = 0 := by omega
        subst this
        exact hv.set hk' 1
      · rw [if_neg (by omega)]; exact hv
  · intro o ho
    have hl := ho.len
    have e1 : (((flats m B).length : Int) - 1).toNat = (flats m B).length - 1 := by omega
    rw [hl, e1, ho.lo _ (by omega)]
    exact gChk (by omega) (gSome rfl)
end
end Go.SH
