/-
  Elements that stand for sets: what the program's Stand, Bar and Lines give. Conditions: at most eight elements and eight sets.
-/
import Derived.Test.YtobpcecpfojpmaaDoorLHn
import Derived.Test.YtobpcecpfojpmaaDoorLRm
import Derived.Test.YtobpcecpfojpmaaDoorLSt
import Derived.Test.YtobpcecpfojpmaaDoorLA
import Derived.Test.YtobpcecpfojpmaaDoorSphall
set_option linter.unusedSimpArgs false
set_option linter.unusedVariables false
namespace Go.SH
open Go Go.AX

theorem sumN_eq_of_le {n : Nat} {g h : Nat → Int} (e : ∀ i, i < n → g i ≤ h i) (s : sumN n h ≤ sumN n g) : ∀ i, i < n → g i = h i := by
  induction n with
  | zero => exact none_all
  | succ n ih =>
    simp only [sumN] at s
    have h1 := sumN_le (n := n) (g := g) (h := h) fun i hi => e i (by omega)
    have h2 := e n (by omega)
    exact step_all (ih (fun i hi => e i (by omega)) (by omega)) (by omega)
theorem dich (b : Bool) : b = false ∨ b = true := by cases b <;> simp
theorem bitI (s i : Nat) : iand ((s : Int) / ((2 ^ i : Nat) : Int)) 1 = if s.testBit i = true then 1 else 0 := by
  have := bit_nat s i
  rw [toNat_nat, shl_nat'] at this; exact this
/-- What some sets have together. -/
def nb (m : Nat) (L : List Nat) (t : Nat) : Nat := mkset m fun x => (List.range L.length).any fun v => t.testBit v && (L.getD v 0).testBit x
theorem nb_lt (m : Nat) (L : List Nat) (t : Nat) : nb m L t < 2 ^ m := mkset_lt m _
theorem nb_bit (m : Nat) (L : List Nat) (t x : Nat) : (nb m L t).testBit x = true ↔ x < m ∧ ∃ v, v < L.length ∧ t.testBit v = true ∧ (L.getD v 0).testBit x = true := by
  rw [nb, mkset_bit, Bool.and_eq_true, decide_eq_true_eq, List.any_eq_true]
  refine and_congr Iff.rfl ⟨fun ⟨i, h1, h2⟩ => ?_, fun ⟨i, h1, h2, h3⟩ => ⟨i, List.mem_range.2 h1, by rw [h2, h3]; rfl⟩⟩
  rw [Bool.and_eq_true] at h2
  exact ⟨i, List.mem_range.1 h1, h2⟩
theorem HOk.nb_bit {m : Nat} {L : List Nat} (h : HOk m L) (t x : Nat) : (nb m L t).testBit x = true ↔ ∃ v, v < L.length ∧ t.testBit v = true ∧ (L.getD v 0).testBit x = true := by
  rw [Go.SH.nb_bit]
  exact ⟨fun q => q.2, fun ⟨v, h1, h2, h3⟩ => ⟨bit_lt (h.lt v h1) h3, v, h1, h2, h3⟩⟩
theorem HOk.isN {m : Nat} {L : List Nat} (h : HOk m L) (t : Nat) : IsN L t (nb m L t) := fun x => h.nb_bit t x
theorem cnt_inj {a b : Nat} {g : Nat → Nat} : ∀ t, t < 2 ^ a → ∀ N, N < 2 ^ b → (∀ v, t.testBit v = true → N.testBit (g v) = true) → (∀ v w, t.testBit v = true → t.testBit w = true → g v = g w → v = w) → cnt a t ≤ cnt b N := by
  refine set_ind (m := a) (fun t => ∀ N, N < 2 ^ b → (∀ v, t.testBit v = true → N.testBit (g v) = true) → (∀ v w, t.testBit v = true → t.testBit w = true → g v = g w → v = w) → cnt a t ≤ cnt b N) (fun N _ _ _ => by rw [cnt_zero]; omega) ?_
  intro t i ht hi hb ih N hN h1 h2
  have bi : (t ||| 2 ^ i).testBit i = true := by rw [Nat.testBit_or, testBit_pow]; simp
  have bv : ∀ v, t.testBit v = true → (t ||| 2 ^ i).testBit v = true := fun v hv => by rw [Nat.testBit_or, hv]; rfl
  have hg := h1 i bi
  have := ih (dif N (2 ^ g i)) (dif_lt hN) (fun v hv => by
    rw [testBit_dif, h1 v (bv v hv), testBit_pow]
    have : g i ≠ g v := fun e => by
      have := h2 i v bi (bv v hv) e
      subst this; rw [hv] at hb; cases hb
    simp [this]) (fun v w hv hw e => h2 v w (bv v hv) (bv w hw) e)
  rw [cnt_add hi hb, cnt_dif hN hg]
  omega

/-! ### all sets have one -/
def Full (L : List Nat) : Prop := ∃ g : Nat → Nat, (∀ v, v < L.length → (L.getD v 0).testBit (g v) = true) ∧ ∀ v w, v < L.length → w < L.length → g v = g w → v = w
/-- These elements stand for sets, each for one. -/
def SDR (L : List Nat) (s used : Nat) : Prop := ∃ f : Nat → Nat, (∀ x, s.testBit x = true → f x < L.length ∧ used.testBit (f x) = false ∧ (L.getD (f x) 0).testBit x = true) ∧ ∀ x y, s.testBit x = true → s.testBit y = true → f x = f y → x = y
section
variable {m : Nat} {L : List Nat} {of : List Int} {many : Int}
theorem occ_none {v : Nat} (h : ∀ x, x < m → of.getD x 0 ≠ (v : Int)) : occ m of v = 0 := by
  unfold occ
  rw [sumN_congr (h := fun _ => 0) fun x hx => if_neg (h x hx), sumN_zero]
theorem occ_two {v x y : Nat} (hx : x < m) (hy : y < m) (hxy : x ≠ y) (h1 : of.getD x 0 = (v : Int)) (h2 : of.getD y 0 = (v : Int)) : 2 ≤ occ m of v := by
  have e := sumN_le (n := m) (g := fun i => (if i = x then (1 : Int) else 0) + (if i = y then 1 else 0)) (h := fun i => if of.getD i 0 = (v : Int) then 1 else 0) fun i _ => by
    by_cases c : i = x
    · subst c; rw [if_pos rfl, if_neg hxy, if_pos h1]; omega
    · by_cases d : i = y
      · subst d; rw [if_neg c, if_pos rfl, if_pos h2]; omega
      · rw [if_neg c, if_neg d]; split <;> omega
  rw [sumN_add, sumN_single m x 1 hx, sumN_single m y 1 hy] at e
  exact e
theorem MO.full (h : MO m L L.length of many) (hok : HOk m L) : many = L.length ↔ Full L := by
  constructor
  · intro hm
    have one : ∀ k : Nat, sumN k (fun _ => (1 : Int)) = k := fun k => by
      induction k with
      | zero => rfl
      | succ k ih => simp only [sumN, ih]; omega
    have h1 := sumN_eq_of_le (n := L.length) (g := fun v => occ m of v) (h := fun _ => 1) (fun v hv => by rcases h.one v hv with q | q <;> omega) (by rw [one, ← h.many]; omega)
    have ex : ∀ v, ∃ x, v < L.length → x < m ∧ of.getD x 0 = (v : Int) := fun v => by
      rcases Classical.em (∃ x, x < m ∧ of.getD x 0 = (v : Int)) with ⟨x, hx⟩ | c
      · exact ⟨x, fun _ => hx⟩
      · refine ⟨0, fun hv => ?_⟩
        have e1 := h1 v hv
        have e2 := occ_none (m := m) (of := of) (v := v) fun x hx e => c ⟨x, hx, e⟩
        omega
    obtain ⟨g, hg⟩ := Classical.axiomOfChoice ex
    refine ⟨g, fun v hv => ?_, fun v w hv hw e => ?_⟩
    · obtain ⟨a, b⟩ := hg v hv
      rcases h.mv.ok (g v) a with q | ⟨k, k1, k2, k3⟩
      · omega
      · have : k = v := by omega
        subst this; exact k3
    · have := (hg v hv).2
      have := (hg w hw).2
      rw [e] at *
      omega
  · rintro ⟨g, g1, g2⟩
    obtain ⟨_, s, hs, ho⟩ := h.ore
    have h1 := ho _ (nb_lt m L s) (hok.isN s)
    have h2 := cnt_inj (g := g) s hs (nb m L s) (nb_lt m L s) (fun v hv => (hok.nb_bit s (g v)).2 ⟨v, bit_lt hs hv, hv, g1 v (bit_lt hs hv)⟩) (fun v w hv hw e => g2 v w (bit_lt hs hv) (bit_lt hs hw) e)
    have h3 := h.bd
    omega
theorem MO.sdr (h : MO m L L.length of many) (hok : HOk m L) : (∃ s, s < 2 ^ m ∧ SDR L s 0 ∧ ((cnt m s : Nat) : Int) = many) ∧ ∀ s, s < 2 ^ m → SDR L s 0 → ((cnt m s : Nat) : Int) ≤ many := by
  constructor
  · refine ⟨mkset m fun x => decide (0 ≤ of.getD x 0), mkset_lt m _, ⟨fun x => (of.getD x 0).toNat, fun x hx => ?_, fun x y hx hy e => ?_⟩, ?_⟩
    · rw [mkset_bit, Bool.and_eq_true, decide_eq_true_eq, decide_eq_true_eq] at hx
      rcases h.mv.ok x hx.1 with q | ⟨k, k1, k2, k3⟩
      · omega
      · dsimp only
        rw [k2]; exact ⟨k1, by simp, k3⟩
    · rw [mkset_bit, Bool.and_eq_true, decide_eq_true_eq, decide_eq_true_eq] at hx hy
      simp only at e
      rcases Classical.em (x = y) with c | c
      · exact c
      · rcases h.mv.ok x hx.1 with q | ⟨k, k1, k2, k3⟩
        · omega
        · have := occ_two hx.1 hy.1 c k2 (by omega)
          rcases h.one k k1 with z | z <;> omega
    · have hm : many = sumN L.length fun v => occ m of v := h.many
      have e : (sumN L.length fun v => occ m of v) = sumN L.length fun v => sumN m fun x => if of.getD x 0 = (v : Int) then 1 else 0 := rfl
      rw [hm, e, sumN_swap, cnt_sumO]
      refine sumN_congr fun x hx => ?_
      rw [mkset_bit, decide_eq_true hx, Bool.true_and]
      rcases h.mv.ok x hx with q | ⟨k, k1, k2, k3⟩
      · rw [if_neg (by rw [q]; decide), sumN_congr (h := fun _ => 0) fun v _ => if_neg (by omega), sumN_zero]
      · rw [if_pos (by rw [k2]; simp), sumN_congr (h := fun v => if v = k then 1 else 0) fun v _ => by
          by_cases c : v = k
          · subst c; rw [if_pos k2, if_pos rfl]
          · rw [if_neg (by omega), if_neg c], sumN_single _ _ _ k1]
  · rintro s hs ⟨f, f1, f2⟩
    obtain ⟨_, t, ht, ho⟩ := h.ore
    have h1 := ho _ (nb_lt m L t) (hok.isN t)
    have hA : ∀ x, (mkset m fun x => s.testBit x && t.testBit (f x)).testBit x = true ↔ s.testBit x = true ∧ t.testBit (f x) = true := fun x => by
      rw [mkset_bit, Bool.and_eq_true, decide_eq_true_eq, Bool.and_eq_true]
      exact ⟨fun q => q.2, fun q => ⟨bit_lt hs q.1, q⟩⟩
    generalize (mkset m fun x => s.testBit x && t.testBit (f x)) = A at hA
    have h2 := cnt_split m s A
    have h3 : cnt m (s &&& A) ≤ cnt m (nb m L t) := cnt_le_of_inc fun x hx => by
      rw [Nat.testBit_and, Bool.and_eq_true] at hx
      exact (hok.nb_bit t x).2 ⟨f x, (f1 x hx.1).1, ((hA x).1 hx.2).2, (f1 x hx.1).2.2⟩
    have h4 : cnt m (dif s A) ≤ cnt L.length (cpl L.length t) := by
      refine cnt_inj (g := f) (dif s A) (dif_lt hs) _ (cpl_lt _ _) (fun x hx => ?_) (fun x y hx hy e => ?_)
      · rw [testBit_dif, Bool.and_eq_true, Bool.not_eq_true'] at hx
        rw [cpl_bit, decide_eq_true (f1 x hx.1).1, Bool.true_and, Bool.not_eq_true']
        cases q : t.testBit (f x) with
        | false => rfl
        | true => rw [(hA x).2 ⟨hx.1, q⟩] at hx; exact absurd hx.2 (by simp)
      · rw [testBit_dif, Bool.and_eq_true] at hx hy
        exact f2 x y hx.1 hy.1 e
    have h5 := cpl_cnt (m := L.length) (s := t)
    omega
end
theorem matched_full {m : Nat} {L : List Nat} (h : HOk m L) : Gets (hall_matched m (cs L)) (fun r => (r.2 = (L.length : Int) ↔ Full L) ∧ r.2 ≤ L.length) := (matched_spec h).mono fun r hr => ⟨hr.full h, hr.bd.2⟩

theorem cs_set (L : List Nat) (k a : Nat) : (cs L).set k (a : Int) = cs (L.set k a) := by
  unfold cs
  rw [List.map_set]
theorem getD_setN {L : List Nat} {k j a : Nat} (hk : k < L.length) : (L.set k a).getD j 0 = if j = k then a else L.getD j 0 := by
  rw [List.getD_eq_getElem?_getD, List.getElem?_set, List.getD_eq_getElem?_getD]
  by_cases h : k = j
  · subst h
    rw [if_pos rfl, if_pos hk, if_pos rfl]; rfl
  · rw [if_neg h, if_neg (fun e => h e.symm)]
theorem app_getN {L : List Nat} {j a : Nat} (h : j < L.length) : (L ++ [a]).getD j 0 = L.getD j 0 := by
  rw [List.getD_eq_getElem?_getD, List.getD_eq_getElem?_getD, List.getElem?_append_left h]
theorem app_lastN {L : List Nat} {a : Nat} : (L ++ [a]).getD L.length 0 = a := by
  rw [List.getD_eq_getElem?_getD, List.getElem?_append_right (Nat.le_refl _), Nat.sub_self]; rfl
theorem HOk.with {m : Nat} {L O : List Nat} (h : HOk m L) (hl : O.length = L.length) (hi : ∀ j, j < L.length → Inc (O.getD j 0) (L.getD j 0)) : HOk m O :=
  ⟨h.n8, by rw [hl]; exact h.l8, fun k hk => (hi k (by omega)).lt (h.lt k (by omega))⟩
theorem tz_pow {i : Nat} (hi : i < 8) : bits_TrailingZeros ((2 ^ i : Nat) : Int) = some (i : Int) := by
  have hp := pow_lt hi
  have h0 : 0 < 2 ^ i := Nat.pow_pos (by omega)
  obtain ⟨j, h1, _, h3⟩ := tz_nat (x := 2 ^ i) (by omega) (by omega)
  rw [testBit_pow, decide_eq_true_eq] at h3
  subst h3; exact h1
/-- An element for each set. -/
theorem Stand_spec {m : Nat} {L : List Nat} (h : HOk m L) : Gets (hall_Stand m (cs L)) (fun r => (r = ([], 5) ∧ ¬ Full L) ∨ (Full L ∧ ∃ out : List Nat, r = (cs out, 0) ∧ out.length = L.length ∧ (∀ j, j < L.length → (L.getD j 0).testBit (out.getD j 0) = true) ∧ ∀ i j, i < L.length → j < L.length → out.getD i 0 = out.getD j 0 → i = j)) := by
  have hm8 := h.n8
  have hl8 := h.l8
  have hp8 := pow_le8 hm8
  unfold hall_Stand
  refine gBindE h.check (gIte (fun q => absurd rfl q) fun _ => gBind (matched_full h) fun r hr => ?_)
  simp only [cs_len]
  refine gIte (fun q => gSome (.inl ⟨rfl, fun z => by have := hr.1.2 z; omega⟩)) fun q => ?_
  have hF : Full L := hr.1.1 (by have := hr.2; omega)
  refine gChk (by omega) (gBind (R := fun v3 => ∃ out : List Nat, v3 = cs out ∧ out.length = L.length ∧ (∀ j, j < L.length → (L.getD j 0).testBit (out.getD j 0) = true) ∧ ∀ i j, i < L.length → j < L.length → out.getD i 0 = out.getD j 0 → i = j)
    (gFor L.length (fun k (x : List Int × List Int × Int) => x.2.2 = (k : Int) ∧ ∃ O out : List Nat, x.1 = cs O ∧ x.2.1 = cs out ∧ O.length = L.length ∧ out.length = k ∧ Full O ∧ (∀ j, j < L.length → Inc (O.getD j 0) (L.getD j 0)) ∧ ∀ j, j < k → O.getD j 0 = 2 ^ (out.getD j 0)) (Nat.zero_le _)
      ⟨rfl, L, [], rfl, rfl, rfl, rfl, hF, fun j _ => Inc.refl _, none_all⟩ ?_) ?_)
  · rintro k ⟨_, _, _⟩ hk ⟨rfl, O, out, rfl, rfl, o1, o2, ⟨g, g1, g2⟩, o4, o5⟩
    dsimp only
    refine gIte (fun h1 => ?_) fun h1 => ?_
    rotate_left
    · have e : k = L.length := by omega
      subst e
      have hg : ∀ j, j < L.length → g j = out.getD j 0 := fun j hj => by
        have := g1 j (by omega)
        rw [o5 j hj, testBit_pow, decide_eq_true_eq] at this
        exact this.symm
      refine gSome ⟨out, rfl, o2, fun j hj => o4 j hj _ (by rw [o5 j hj, testBit_pow]; simp), fun i j hi hj e => g2 i j (by omega) (by omega) (by rw [hg i hi, hg j hj, e])⟩
    have hk' : k < L.length := by omega
    simp only [toNat_nat, cs_len, cs_get]
    refine gChk (by omega) ?_
    have hOk := h.with o1 o4
    have hOk8 := hOk.lt k (by omega)
    refine gBind (R := fun v6 => ∃ i, v6 = cs (O.set k (2 ^ i)) ∧ (O.getD k 0).testBit i = true ∧ Full (O.set k (2 ^ i))) (gLoop (fun (x : List Int × Int) => ∃ (O' : List Nat) (s : Nat), x.1 = cs O' ∧ x.2 = (s : Int) ∧ O'.length = L.length ∧ (∀ y, O'.set k y = O.set k y) ∧ Inc s (O.getD k 0) ∧ Full (O.set k s)) (fun x => x.2.toNat) ⟨O, O.getD k 0, rfl, rfl, o1, fun _ => rfl, Inc.refl _, g, fun v hv => ?_, fun v w hv hw e => g2 v w (by simpa using hv) (by simpa using hw) e⟩ ?_) ?_
    · rw [List.length_set] at hv
      rw [getD_setN (by omega)]
      split
      · rename_i c; subst c; exact g1 _ hv
      · exact g1 _ hv
    · rintro ⟨_, _⟩ ⟨O', s, rfl, rfl, p1, p2, p3, ⟨f, f1, f2⟩⟩
      dsimp only
      have hs := p3.lt hOk8
      have hsf := f1 k (by rw [List.length_set]; omega)
      rw [getD_setN (by omega), if_pos rfl] at hsf
      have hs0 : s ≠ 0 := fun e => by rw [e] at hsf; simp at hsf
      have hlow := low_spec (t := s) (by omega) hs0
      generalize lo1 s = i at hlow
      have hi := bit_lt hs hlow.bit
      have hil : 2 ^ i < 2 ^ m := pow_lt hi
      simp only [hlow.neg, hlow.rest, cs_set, p2, cs_len]
      have hOk' : HOk m (O.set k (2 ^ i)) := h.with (by rw [List.length_set, o1]) fun j hj => by
        rw [getD_setN (by omega)]
        split
        · rename_i c; subst c; exact (inc_pow (p3 i hlow.bit)).trans (o4 j hj)
        · exact o4 j hj
      refine gChk (by omega) (gBind (matched_full hOk') fun y hy => ?_)
      rw [List.length_set, o1] at hy
      refine gIte (fun h2 => gSome ⟨i, rfl, p3 i hlow.bit, hy.1.1 h2⟩) fun h2 => gChk (by omega) (gSome ⟨⟨O.set k (2 ^ i), dif s (2 ^ i), rfl, rfl, by rw [List.length_set]; exact o1, fun y => List.set_set .., (inc_dif _ _).trans p3, f, fun v hv => ?_, fun v w hv hw e => f2 v w (by simpa using hv) (by simpa using hw) e⟩, by simpa using hlow.less⟩)
      rw [List.length_set] at hv
      have f3 := f1 v (by rw [List.length_set]; exact hv)
      rw [getD_setN (by omega)] at f3 ⊢
      split
      · rename_i c
        rw [if_pos c] at f3
        rw [testBit_dif, f3, testBit_pow]
        have : i ≠ f v := fun e => h2 (hy.1.2 ⟨f, fun w hw => by
          rw [List.length_set] at hw
          have f4 := f1 w (by rw [List.length_set]; exact hw)
          rw [getD_setN (by omega)] at f4 ⊢
          split
          · rename_i d
            have : w = v := by omega
            subst this
            rw [testBit_pow]; simp [e]
          · rename_i d; rw [if_neg d] at f4; exact f4, fun v w hv hw e => f2 v w (by simpa using hv) (by simpa using hw) e⟩)
        simp [this]
      · rename_i c; rw [if_neg c] at f3; exact f3
    · rintro _ ⟨i, rfl, q1, q2⟩
      have hi := bit_lt hOk8 q1
      have hi8 : i < 8 := by omega
      have hil : 2 ^ i < 2 ^ 8 := pow_lt hi8
      have e1 : (cs (O.set k (2 ^ i))).getD k 0 = ((2 ^ i : Nat) : Int) := by rw [cs_get, getD_setN (by omega), if_pos rfl]
      have e2 : 0 ≤ (cs (O.set k (2 ^ i))).getD k 0 ∧ (cs (O.set k (2 ^ i))).getD k 0 ≤ 18446744073709551615 := by
        rw [e1]
        generalize 2 ^ i = z at hil
        omega
      refine gChk ⟨by rw [cs_len, List.length_set]; omega, e2⟩ ?_
      rw [e1, tz_pow hi8, Option.bind_some]
      refine gChk (by rw [List.length_append, cs_len]; simp only [List.length_cons, List.length_nil]; omega) (gSome ⟨hk', by simp, O.set k (2 ^ i), out ++ [i], rfl, cs_app _ _, by rw [List.length_set]; exact o1, by rw [List.length_append]; simp only [List.length_cons, List.length_nil]; omega, q2, fun j hj => ?_, fun j hj => ?_⟩)
      · rw [getD_setN (by omega)]
        split
        · rename_i c; subst c; exact (inc_pow q1).trans (o4 j hj)
        · exact o4 j hj
      · rw [getD_setN (by omega)]
        rcases Nat.lt_succ_iff_lt_or_eq.1 hj with c | c
        · rw [if_neg (by omega), app_getN (by omega)]; exact o5 j c
        · subst c
          rw [if_pos rfl]
          have := app_lastN (L := out) (a := i)
          rw [o2] at this
          rw [this]
  · rintro _ ⟨out, rfl, a1, a2, a3⟩
    exact gSome (.inr ⟨hF, out, rfl, a1, a2, a3⟩)

theorem oc_nat {a : Nat} (h : a < 256) : bits_OnesCount (a : Int) = some ((size a : Nat) : Int) := by simp [bits_OnesCount, oc_size h]
end Go.SH
