/-
  Cuts of the network, vertex by vertex. Representatives give cuts no less than the start. Cuts no less than the start give representatives. links.Sets and links.Gammoid as they compute. INGLETON, PIFF: as many ways as the start has, just if the others stand for the sets.  Conditions: none.
-/
import Derived.Test.YtdhbpoafkhojnaaLNd
import Derived.Test.YtdhbpoafkhojnaaLRx
import Derived.Test.YtdhbpoafkhojnaaLNe
import Derived.Test.YtdhbpoafkhojnaaLKf

set_option linter.unusedSimpArgs false
set_option linter.unusedVariables false
namespace Go.SH
open Go Go.AX

theorem sm_pts (f : Nat → Int) : ∀ N, sm (2 + 2 * N) f = f 0 + f 1 + sm N (fun v => f (2 + 2 * v) + f (3 + 2 * v))
  | 0 => by
    show 0 + f 0 + f 1 = f 0 + f 1 + 0
    omega
  | N + 1 => by
    have e : 2 + 2 * (N + 1) = 2 + 2 * N + 1 + 1 := by omega
    rw [e]
    show sm (2 + 2 * N) f + f (2 + 2 * N) + f (2 + 2 * N + 1) = f 0 + f 1 + (sm N _ + (f (2 + 2 * N) + f (3 + 2 * N)))
    rw [sm_pts f N, show 2 + 2 * N + 1 = 3 + 2 * N by omega]
    omega
section
variable {N : Nat} {E : List (Int × Int)}
/-- An edge from a to b. -/
def Edge (E : List (Int × Int)) (a b : Nat) : Prop := ∃ e, e < E.length ∧ hA E e = a ∧ hB E e = b
theorem lay_0 (s t j : Nat) : lay E s t N E.length 0 j = if j % 2 = 0 ∧ 2 ≤ j ∧ j < 2 + 2 * N then bitZ s (j / 2 - 1) else 0 := by
  unfold lay
  rw [if_neg (by omega)]
  by_cases c : j % 2 = 0 ∧ 2 ≤ j ∧ j < 2 + 2 * N
  · rw [if_pos ⟨rfl, c⟩, if_pos c]
  · rw [if_neg (fun w => c w.2), if_neg c, if_neg (by omega), if_neg (fun ⟨e, _, h, _⟩ => by omega)]
theorem lay_1 (s t j : Nat) : lay E s t N E.length 1 j = 0 := by
  unfold lay
  rw [if_neg (by omega), if_neg (by omega), if_neg (by omega), if_neg (fun ⟨e, _, h, _⟩ => by omega)]
theorem lay_in (s t : Nat) {v : Nat} (hv : v < N) (j : Nat) : lay E s t N E.length (2 + 2 * v) j = if j = 3 + 2 * v then 1 else 0 := by
  unfold lay
  by_cases c : j = 3 + 2 * v
  · rw [if_pos (by omega), if_pos c]
  · rw [if_neg (by omega), if_neg (by omega), if_neg (by omega), if_neg (fun ⟨e, _, h, _⟩ => by omega), if_neg c]
theorem lay_ou (s t : Nat) {v : Nat} (hv : v < N) (j : Nat) : open Classical in lay E s t N E.length (3 + 2 * v) j = if j = 1 then bitZ t v else if ∃ b, j = 2 + 2 * b ∧ Edge E v b then 1 else 0 := by
  classical
  unfold lay
  rw [if_neg (by omega), if_neg (by omega)]
  by_cases c : j = 1
  · rw [if_pos (by omega), if_pos c, show (3 + 2 * v) / 2 - 1 = v by omega]
  · rw [if_neg (by omega), if_neg c]
    have e : (∃ e, e < E.length ∧ 3 + 2 * v = 3 + 2 * hA E e ∧ j = 2 + 2 * hB E e) ↔ ∃ b, j = 2 + 2 * b ∧ Edge E v b :=
      ⟨fun ⟨e, h1, h2, h3⟩ => ⟨hB E e, h3, e, h1, by omega, rfl⟩, fun ⟨b, h1, e, h2, h3, h4⟩ => ⟨e, h2, by omega, by omega⟩⟩
    by_cases d : ∃ b, j = 2 + 2 * b ∧ Edge E v b
    · rw [if_pos (e.2 d), if_pos d]
    · rw [if_neg (fun w => d (e.1 w)), if_neg d]
theorem row_0 (s t : Nat) (S : Nat → Bool) (h0 : S 0 = true) : sm (2 + 2 * N) (fun j => if S j = true then 0 else lay E s t N E.length 0 j) = sm N (fun v => if S (2 + 2 * v) = true then 0 else bitZ s v) := by
  rw [sm_pts, if_pos h0, lay_0, if_neg (show ¬ (1 % 2 = 0 ∧ 2 ≤ 1 ∧ 1 < 2 + 2 * N) by omega)]
  have e : (if S 1 = true then (0 : Int) else 0) = 0 := by split <;> rfl
  rw [e]
  have e2 : ∀ v, v < N → (if S (2 + 2 * v) = true then 0 else lay E s t N E.length 0 (2 + 2 * v)) + (if S (3 + 2 * v) = true then 0 else lay E s t N E.length 0 (3 + 2 * v)) = if S (2 + 2 * v) = true then 0 else bitZ s v := fun v hv => by
    rw [lay_0, lay_0, if_pos (show (2 + 2 * v) % 2 = 0 ∧ 2 ≤ 2 + 2 * v ∧ 2 + 2 * v < 2 + 2 * N by omega), if_neg (show ¬ ((3 + 2 * v) % 2 = 0 ∧ 2 ≤ 3 + 2 * v ∧ 3 + 2 * v < 2 + 2 * N) by omega), show (2 + 2 * v) / 2 - 1 = v by omega]
    split <;> split <;> omega
  rw [sm_congr e2]; omega
theorem row_in (s t : Nat) (S : Nat → Bool) {v : Nat} (hv : v < N) : sm (2 + 2 * N) (fun j => if S j = true then 0 else lay E s t N E.length (2 + 2 * v) j) = if S (3 + 2 * v) = true then 0 else 1 := by
  rw [sm_one (k := 3 + 2 * v) (by omega) fun j hj hne => ?_]
  · rw [lay_in s t hv, if_pos rfl]
  · rw [lay_in s t hv, if_neg hne]; split <;> rfl
theorem row_ou (s t : Nat) (S : Nat → Bool) (h0 : S 0 = true) (h1 : S 1 = false) {v : Nat} (hv : v < N) : open Classical in sm (2 + 2 * N) (fun j => if S j = true then 0 else lay E s t N E.length (3 + 2 * v) j) = bitZ t v + sm N (fun b => if S (2 + 2 * b) = true then 0 else if Edge E v b then 1 else 0) := by
  classical
  rw [sm_pts, if_pos h0, if_neg (by rw [h1]; decide), lay_ou s t hv, if_pos rfl]
  have e2 : ∀ b, b < N → (if S (2 + 2 * b) = true then 0 else lay E s t N E.length (3 + 2 * v) (2 + 2 * b)) + (if S (3 + 2 * b) = true then 0 else lay E s t N E.length (3 + 2 * v) (3 + 2 * b)) = if S (2 + 2 * b) = true then 0 else if Edge E v b then 1 else 0 := fun b hb => by
    have a1 : lay E s t N E.length (3 + 2 * v) (2 + 2 * b) = if Edge E v b then 1 else 0 := by
      rw [lay_ou s t hv, if_neg (by omega)]
      by_cases c : Edge E v b
      · rw [if_pos c, if_pos ⟨b, rfl, c⟩]
      · rw [if_neg c, if_neg (fun ⟨b', w1, w2⟩ => c (by rw [show b = b' by omega]; exact w2))]
    have a2 : lay E s t N E.length (3 + 2 * v) (3 + 2 * b) = 0 := by
      rw [lay_ou s t hv, if_neg (by omega), if_neg (fun ⟨b', w1, _⟩ => by omega)]
    rw [a1, a2]
    have z : (if S (3 + 2 * b) = true then (0 : Int) else 0) = 0 := by split <;> rfl
    rw [z, Int.add_zero]
  rw [sm_congr e2]; omega
/-- A cut, vertex by vertex. -/
theorem out_lay (s t : Nat) (S : Nat → Bool) (h0 : S 0 = true) (h1 : S 1 = false) : open Classical in outS (2 + 2 * N) (lay E s t N E.length) S = sm N (fun v => if S (2 + 2 * v) = true then 0 else bitZ s v) +
    sm N (fun v => (if S (2 + 2 * v) = true then (if S (3 + 2 * v) = true then 0 else 1) else 0) + (if S (3 + 2 * v) = true then bitZ t v + sm N (fun b => if S (2 + 2 * b) = true then 0 else if Edge E v b then 1 else 0) else 0)) := by
  classical
  unfold outS
  rw [sm_pts, if_pos h0, if_neg (show ¬ S 1 = true by rw [h1]; decide), row_0 s t S h0]
  rw [Int.add_zero]
  congr 1
  refine sm_congr fun v hv => ?_
  rw [row_in s t S hv, row_ou s t S h0 h1 hv]
end
end Go.SH

set_option linter.unusedSimpArgs false
set_option linter.unusedVariables false
namespace Go.SH
open Go Go.AX

theorem sm_cnt (D : Nat) : ∀ N, sm N (fun v => bitZ D v) = ((cnt N D : Nat) : Int)
  | 0 => rfl
  | N + 1 => by
    show sm N _ + bitZ D N = _
    rw [sm_cnt D N, cnt]
    unfold bitZ
    split <;> omega
theorem bitZ_bd (s v : Nat) : 0 ≤ bitZ s v ∧ bitZ s v ≤ 1 := by unfold bitZ; split <;> omega
theorem bitZ_iff {s v : Nat} {P : Prop} [Decidable P] (h : s.testBit v = true ↔ P) : bitZ s v = if P then 1 else 0 := by
  unfold bitZ
  by_cases c : P
  · rw [if_pos (h.2 c), if_pos c]
  · rw [if_neg (fun w => c (h.1 w)), if_neg c]
theorem sdr_cut {N s t : Nat} {E : List (Int × Int)} (hs : s < 2 ^ N) {g : Nat → Nat} (hg : ∀ v, v < N → t.testBit v = false → g v < N ∧ s.testBit (g v) = false ∧ (g v = v ∨ Edge E v (g v)))
    (hi : ∀ v w, v < N → w < N → t.testBit v = false → t.testBit w = false → g v = g w → v = w) (S : Nat → Bool) (h0 : S 0 = true) (h1 : S 1 = false) : ((cnt N s : Nat) : Int) ≤ outS (2 + 2 * N) (lay E s t N E.length) S := by
  classical
  rw [out_lay s t S h0 h1]
  -- who goes through g to what is in reach
  obtain ⟨A, a1, a2⟩ := setof (fun v => S (3 + 2 * v) = true ∧ t.testBit v = false ∧ (S (2 + 2 * g v) = true ∨ g v = v)) N
  obtain ⟨B, b1, b2⟩ := setof (fun x => s.testBit x = false ∧ (S (2 + 2 * x) = true ∨ S (3 + 2 * x) = true)) N
  have hAB : cnt N A ≤ cnt N B := cnt_inj (g := g) A a1 B b1 (fun v hv => by
    obtain ⟨v1, v2, v3, v4⟩ := (a2 v).1 hv
    obtain ⟨g1, g2, _⟩ := hg v v1 v3
    refine (b2 _).2 ⟨g1, g2, ?_⟩
    rcases v4 with w | w
    · exact .inl w
    · rw [w]; exact .inr v2) fun v w hv hw e => by
    obtain ⟨v1, _, v3, _⟩ := (a2 v).1 hv
    obtain ⟨w1, _, w3, _⟩ := (a2 w).1 hw
    exact hi v w v1 w1 v3 w3 e
  have cA := sm_cnt A N
  have cB := sm_cnt B N
  have cS := sm_cnt s N
  have key : sm N (fun v => bitZ s v + bitZ B v) ≤ sm N (fun v => ((if S (2 + 2 * v) = true then 0 else bitZ s v) + ((if S (2 + 2 * v) = true then (if S (3 + 2 * v) = true then 0 else 1) else 0) + (if S (3 + 2 * v) = true then bitZ t v + sm N (fun b => if S (2 + 2 * b) = true then 0 else if Edge E v b then 1 else 0) else 0))) + bitZ A v) := by
    refine sm_le fun v hv => ?_
    have hA : bitZ A v = if S (3 + 2 * v) = true ∧ t.testBit v = false ∧ (S (2 + 2 * g v) = true ∨ g v = v) then 1 else 0 := bitZ_iff ((a2 v).trans ⟨fun w => w.2, fun w => ⟨hv, w⟩⟩)
    have hB : bitZ B v = if s.testBit v = false ∧ (S (2 + 2 * v) = true ∨ S (3 + 2 * v) = true) then 1 else 0 := bitZ_iff ((b2 v).trans ⟨fun w => w.2, fun w => ⟨hv, w⟩⟩)
    have sb := bitZ_bd s v
    have tb := bitZ_bd t v
    have nn : 0 ≤ sm N (fun b => if S (2 + 2 * b) = true then (0 : Int) else if Edge E v b then 1 else 0) := sm_nn fun b _ => by split <;> (try split) <;> omega
    rw [hA, hB]
    cases cW : S (3 + 2 * v) with
    | false =>
      cases cU : S (2 + 2 * v) with
      | false => simp
      | true => 
        cases cs : s.testBit v with
        | false => simp [bitZ, cs]
        | true => simp [bitZ, cs]
    | true =>
      -- one of the three
      have three : 1 ≤ bitZ t v + sm N (fun b => if S (2 + 2 * b) = true then (0 : Int) else if Edge E v b then 1 else 0) + (if t.testBit v = false ∧ (S (2 + 2 * g v) = true ∨ g v = v) then 1 else 0) := by
        cases ct : t.testBit v with
        | true => 
          have : bitZ t v = 1 := by unfold bitZ; rw [if_pos ct]
          simp; omega
        | false =>
          obtain ⟨g1, _, g3⟩ := hg v hv ct
          by_cases d : S (2 + 2 * g v) = true ∨ g v = v
          · rw [if_pos ⟨rfl, d⟩]; omega
          · rw [if_neg (fun w => d w.2)]
            have he : Edge E v (g v) := g3.resolve_left fun w => d (.inr w)
            have hl : sm N (fun b => if b = g v then (1 : Int) else 0) ≤ sm N (fun b => if S (2 + 2 * b) = true then (0 : Int) else if Edge E v b then 1 else 0) := sm_le fun b _ => by
              by_cases q : b = g v
              · subst q; rw [if_pos rfl, if_neg (fun w => d (.inl w)), if_pos he]; exact Int.le_refl _
              · rw [if_neg q]; split <;> (try split) <;> omega
            rw [sm_one (k := g v) g1 fun b _ hne => if_neg hne, if_pos rfl] at hl
            omega
      cases cs : s.testBit v with
      | false =>
        have z : bitZ s v = 0 := by unfold bitZ; rw [cs]; rfl
        rw [z]
        simp only [true_and, or_true, if_true]
        cases S (2 + 2 * v) <;> simp <;> omega
      | true =>
        have z : bitZ s v = 1 := by unfold bitZ; rw [cs]; rfl
        rw [z]
        simp only [true_and, or_true, if_true]
        cases S (2 + 2 * v) <;> simp <;> omega
  rw [sm_add, sm_add, sm_add, cA, cB, cS] at key
  omega
end Go.SH

set_option linter.unusedSimpArgs false
set_option linter.unusedVariables false
namespace Go.SH
open Go Go.AX

/-- The sets of the vertices o 0, o 1 ..: each with the heads of its edges. -/
def Out (N : Nat) (E : List (Int × Int)) (o : Nat → Nat) (L : List Nat) : Prop := ∀ k, k < L.length → ∀ x, (L.getD k 0).testBit x = true ↔ x < N ∧ (x = o k ∨ Edge E (o k) x)
theorem cut_sdr {N s t : Nat} {E : List (Int × Int)} {L : List Nat} {o : Nat → Nat} (hE : EndsLt N E) (hs : s < 2 ^ N) (hL : HOk N L) (ho : ∀ k, k < L.length → o k < N ∧ t.testBit (o k) = false) (hoi : ∀ j k, j < L.length → k < L.length → o j = o k → j = k) (hO : Out N E o L)
    (hc : ∀ S : Nat → Bool, S 0 = true → S 1 = false → ((cnt N s : Nat) : Int) ≤ outS (2 + 2 * N) (lay E s t N E.length) S) : ∃ g : Nat → Nat, (∀ k, k < L.length → (L.getD k 0).testBit (g k) = true ∧ s.testBit (g k) = false) ∧ ∀ j k, j < L.length → k < L.length → g j = g k → j = k := by
  classical
  refine hall hL fun J hJ => ?_
  obtain ⟨J', j1, j2, j3⟩ := image_ex (n := L.length) o N J hJ (fun x hx => (ho x (bit_lt hJ hx)).1) fun x y hx hy e => hoi x y (bit_lt hJ hx) (bit_lt hJ hy) e
  obtain ⟨M, hM⟩ : ∃ M, M = nb N L J := ⟨_, rfl⟩
  have hMb : ∀ x, M.testBit x = true ↔ ∃ v, v < L.length ∧ J.testBit v = true ∧ (L.getD v 0).testBit x = true := fun x => by rw [hM]; exact hL.nb_bit J x
  have hJM : ∀ v, J'.testBit v = true → M.testBit v = true := fun v hv => by
    obtain ⟨k, k1, rfl⟩ := (j3 v).1 hv
    have hk := bit_lt hJ k1
    exact (hMb _).2 ⟨k, hk, k1, (hO k hk _).2 ⟨(ho k hk).1, .inl rfl⟩⟩
  have h := hc (fun x => decide (x = 0 ∨ (x % 2 = 0 ∧ 2 ≤ x ∧ M.testBit (x / 2 - 1) = true) ∨ (x % 2 = 1 ∧ 3 ≤ x ∧ J'.testBit (x / 2 - 1) = true))) (by simp) (by simp)
  have eU : ∀ v, decide (2 + 2 * v = 0 ∨ ((2 + 2 * v) % 2 = 0 ∧ 2 ≤ 2 + 2 * v ∧ M.testBit ((2 + 2 * v) / 2 - 1) = true) ∨ ((2 + 2 * v) % 2 = 1 ∧ 3 ≤ 2 + 2 * v ∧ J'.testBit ((2 + 2 * v) / 2 - 1) = true)) = M.testBit v := fun v => by
    rw [show (2 + 2 * v) / 2 - 1 = v by omega]
    cases q : M.testBit v with
    | true => exact decide_eq_true (.inr (.inl ⟨by omega, by omega, rfl⟩))
    | false =>
      exact decide_eq_false fun w => by
        rcases w with w | w | w
        · omega
        · exact absurd w.2.2 (by decide)
        · omega
  have eW : ∀ v, decide (3 + 2 * v = 0 ∨ ((3 + 2 * v) % 2 = 0 ∧ 2 ≤ 3 + 2 * v ∧ M.testBit ((3 + 2 * v) / 2 - 1) = true) ∨ ((3 + 2 * v) % 2 = 1 ∧ 3 ≤ 3 + 2 * v ∧ J'.testBit ((3 + 2 * v) / 2 - 1) = true)) = J'.testBit v := fun v => by
    rw [show (3 + 2 * v) / 2 - 1 = v by omega]
    cases q : J'.testBit v with
    | true => exact decide_eq_true (.inr (.inr ⟨by omega, by omega, rfl⟩))
    | false =>
      exact decide_eq_false fun w => by
        rcases w with w | w | w
        · omega
        · omega
        · exact absurd w.2.2 (by decide)
  rw [out_lay s t _ (by simp) (by simp)] at h
  simp only [eU, eW] at h
  rw [← sm_add] at h
  have e : ∀ v, v < N → (if M.testBit v = true then 0 else bitZ s v) + ((if M.testBit v = true then (if J'.testBit v = true then (0 : Int) else 1) else 0) + (if J'.testBit v = true then bitZ t v + sm N (fun b => if M.testBit b = true then 0 else if Edge E v b then 1 else 0) else 0)) + bitZ J' v = bitZ s v + bitZ (dif M s) v := fun v hv => by
    have z : J'.testBit v = true → bitZ t v + sm N (fun b => if M.testBit b = true then (0 : Int) else if Edge E v b then 1 else 0) = 0 := fun hJv => by
      obtain ⟨k, k1, rfl⟩ := (j3 v).1 hJv
      have hk := bit_lt hJ k1
      have t0 : bitZ t (o k) = 0 := by unfold bitZ; rw [(ho k hk).2]; rfl
      rw [t0, sm_zero fun b hb => ?_]; · rfl
      by_cases q : M.testBit b = true
      · rw [if_pos q]
      · rw [if_neg q, if_neg (fun w => q ((hMb b).2 ⟨k, hk, k1, (hO k hk b).2 ⟨hb, .inr w⟩⟩))]
    have hd : bitZ (dif M s) v = if M.testBit v = true ∧ s.testBit v = false then 1 else 0 := bitZ_iff (by rw [testBit_dif, Bool.and_eq_true, Bool.not_eq_true'])
    rw [hd]
    cases cJ : J'.testBit v with
    | true =>
      have cM := hJM v cJ
      rw [z cJ, cM]
      cases cs : s.testBit v <;> simp [bitZ, cJ, cs]
    | false =>
      cases cM : M.testBit v <;> cases cs : s.testBit v <;> simp [bitZ, cJ, cs]
  have hsum := sm_congr e
  rw [sm_add (f := fun v => (if M.testBit v = true then 0 else bitZ s v) + _) (g := fun v => bitZ J' v), sm_cnt, sm_add (fun v => bitZ s v) (fun v => bitZ (dif M s) v), sm_cnt, sm_cnt] at hsum
  rw [← hM, ← j2]
  omega
end Go.SH

set_option linter.unusedSimpArgs false
set_option linter.unusedVariables false
namespace Go.SH
open Go Go.AX

theorem snocM_lt {Q : List Nat} {x t : Nat} (h : t < Q.length) : (Q ++ [x]).getD t 0 = Q.getD t 0 := snocN_lt h
theorem elm_getD_succ_lt {v c k : Nat} (hk : k < cnt v c) : (elm (v + 1) c).getD k 0 = (elm v c).getD k 0 := by
  rw [elm_succ]
  split
  · exact snocN_lt (by rw [elm_len]; exact hk)
  · rfl
theorem Sets_spec {N : Nat} {E : List (Int × Int)} (h : CG N E) {t : Nat} (ht : t < 2 ^ N) : Gets (links_Sets N E (t : Int)) (fun r => ∃ L, r = (cs L, 0) ∧ L.length = cnt N (cpl N t) ∧ Out N E (fun k => (elm N (cpl N t)).getD k 0) L) := by
  have hn1 := h.n1
  have hn7 := h.n7
  obtain ⟨ends, eq⟩ := h.ends
  unfold links_Sets
  refine gBind (right_spec N E [(t : Int)]) fun e he => gIte (fun q => absurd (he.2 ⟨h, fun k hk => ?_⟩) q) fun _ => ?_
  · rw [toNat_nat, show k = 0 by simp at hk; omega]
    show 0 ≤ (t : Int) ∧ (t : Int) < _
    omega
  refine gBind (R := fun l => ∃ L, l = cs L ∧ L.length = cnt N (cpl N t) ∧ Out N E (fun k => (elm N (cpl N t)).getD k 0) L) (gFor N (fun v (x : List Int × Int) => x.2 = (v : Int) ∧ ∃ L, x.1 = cs L ∧ L.length = cnt v (cpl N t) ∧ Out N E (fun k => (elm v (cpl N t)).getD k 0) L) (Nat.zero_le _) ⟨rfl, [], rfl, rfl, fun k hk => by simp at hk⟩ ?_) ?_
  · rintro v ⟨_, _⟩ hv ⟨rfl, L, rfl, hL, hO⟩
    dsimp only
    refine gIte (fun h1 => gChk (by omega) ?_) fun h1 => gSome ⟨L, rfl, by rw [hL, show N = v by omega], by rw [show N = v by omega] at hO ⊢; exact hO⟩
    have hvN : v < N := by omega
    have hc := cpl_bit N t v
    have hb := bit_nat t v
    rw [hb]
    have hcl := cnt_le v (cpl N t)
    refine gIte (fun h2 => ?_) fun h2 => ?_
    · have htv : t.testBit v = true := by
        cases q : t.testBit v with
        | true => rfl
        | false => rw [q] at h2; simp at h2
      have hcf : (cpl N t).testBit v = false := by rw [hc, htv]; simp
      refine gSome ⟨hvN, by simp, L, rfl, by rw [cnt, hcf]; simpa using hL, fun k hk x => ?_⟩
      have e3 := elm_getD_succ_lt (v := v) (c := cpl N t) (k := k) (by omega)
      simp only [e3]
      exact hO k hk x
    · have htv : t.testBit v = false := by
        cases q : t.testBit v with
        | false => rfl
        | true => rw [q] at h2; exact absurd rfl h2
      have hct : (cpl N t).testBit v = true := by rw [hc, htv]; simp [hvN]
      simp only [toNat_nat, shl_nat']
      refine gChk ⟨by omega, by omega⟩ ?_
      refine gBind (R := fun s => ∃ A : Nat, s = (A : Int) ∧ ∀ x, A.testBit x = true ↔ x = v ∨ Edge E v x) (gFor E.length (fun k (x : Int × Int) => x.2 = (k : Int) ∧ ∃ A : Nat, x.1 = (A : Int) ∧ ∀ x, A.testBit x = true ↔ x = v ∨ ∃ e, e < k ∧ hA E e = v ∧ hB E e = x) (Nat.zero_le _)
        ⟨rfl, 2 ^ v, rfl, fun x => by rw [testBit_pow, decide_eq_true_eq]; exact ⟨fun w => .inl w.symm, fun w => w.elim (fun z => z.symm) fun ⟨e, z, _⟩ => by omega⟩⟩ ?_) ?_
      · rintro k ⟨_, _⟩ hk ⟨rfl, A, rfl, hA'⟩
        dsimp only
        refine gIte (fun h3 => gChk ⟨by omega, by omega⟩ ?_) fun h3 => gSome ⟨A, rfl, fun x => (hA' x).trans (by rw [show k = E.length by omega]; exact Iff.rfl)⟩
        have hkE : k < E.length := by omega
        obtain ⟨ea, eb⟩ := eq k hkE
        obtain ⟨la, lb⟩ := ends k hkE
        simp only [toNat_nat, ea, eb, shl_nat']
        refine gIte (fun h4 => gChk ⟨by omega, by omega⟩ (gSome ⟨hkE, by simp, A ||| 2 ^ hB E k, or_nat _ _, fun x => ?_⟩)) fun h4 => gSome ⟨hkE, by simp, A, rfl, fun x => (hA' x).trans ⟨fun w => w.imp id fun ⟨e, e1, e2⟩ => ⟨e, by omega, e2⟩, fun w => w.imp id fun ⟨e, e1, e2, e3⟩ => ⟨e, ?_, e2, e3⟩⟩⟩
        · rw [Nat.testBit_or, testBit_pow, Bool.or_eq_true, hA', decide_eq_true_eq]
          constructor
          · rintro ((w | ⟨e, e1, e2⟩) | w)
            · exact .inl w
            · exact .inr ⟨e, by omega, e2⟩
            · exact .inr ⟨k, by omega, by omega, w⟩
          · rintro (w | ⟨e, e1, e2, e3⟩)
            · exact .inl (.inl w)
            · rcases Nat.lt_succ_iff_lt_or_eq.1 e1 with q | q
              · exact .inl (.inr ⟨e, q, e2, e3⟩)
              · subst q; exact .inr e3
        · rcases Nat.lt_succ_iff_lt_or_eq.1 e1 with q | q
          · exact q
          · subst q; exact absurd (by omega) h4
      · rintro _ ⟨A, rfl, hA'⟩
        refine gChk (by rw [List.length_append, cs_len]; simp; omega) (gSome ⟨hvN, by simp, L ++ [A], cs_app _ _, by rw [List.length_append, cnt, if_pos hct, hL]; rfl, fun k hk x => ?_⟩)
        rw [List.length_append] at hk
        simp only [List.length_cons, List.length_nil] at hk
        by_cases q : k < L.length
        · have e3 := elm_getD_succ_lt (v := v) (c := cpl N t) (k := k) (by omega)
          simp only [e3]
          rw [snocN_lt q]; exact hO k q x
        · have e1 : (elm (v + 1) (cpl N t)).getD k 0 = v := by
            rw [elm_succ, if_pos hct, snocN_at (by rw [elm_len]; omega)]
          simp only [e1]
          rw [snocN_at (by omega), hA']
          refine ⟨fun w => ⟨?_, w⟩, fun w => w.2⟩
          rcases w with w | ⟨e, e1, e2, e3⟩
          · omega
          · have := (ends e e1).2; omega
  · rintro _ ⟨L, rfl, h1, h2⟩
    exact gSome ⟨L, rfl, h1, h2⟩
end Go.SH

set_option linter.unusedSimpArgs false
set_option linter.unusedVariables false
namespace Go.SH
open Go Go.AX

theorem cnt_idx {c y n : Nat} (hy : y < n) (hb : c.testBit y = true) : cnt y c < cnt n c := by
  have e : cnt (y + 1) c = cnt y c + 1 := by rw [cnt, if_pos hb]
  have := cnt_up c (show y + 1 ≤ n by omega)
  omega
theorem Out.hok {N t : Nat} {E : List (Int × Int)} {L : List Nat} (h : CG (N : Int) E) (hL : L.length = cnt N (cpl N t)) (hO : Out N E (fun k => (elm N (cpl N t)).getD k 0) L) : HOk N L := by
  have := h.n7
  have := cnt_le N (cpl N t)
  refine ⟨by omega, by omega, fun k hk => lt_of_bits fun i hi => ?_⟩
  cases q : (L.getD k 0).testBit i with
  | false => rfl
  | true => have := ((hO k hk i).1 q).1; omega
theorem link_iff {N s t : Nat} {E : List (Int × Int)} {L : List Nat} (h : CG (N : Int) E) (hs : s < 2 ^ N) (ht : t < 2 ^ N) (hcn : cnt N s = cnt N t) (hL : L.length = cnt N (cpl N t)) (hO : Out N E (fun k => (elm N (cpl N t)).getD k 0) L) :
    (∀ S : Nat → Bool, S 0 = true → S 1 = false → ((cnt N s : Nat) : Int) ≤ outS (2 + 2 * N) (lay E s t N E.length) S) ↔ SDR L (cpl N s) 0 := by
  have hok := hO.hok h hL
  have c1 := cpl_cnt (m := N) (s := s)
  have c2 := cpl_cnt (m := N) (s := t)
  have ho : ∀ k, k < L.length → (elm N (cpl N t)).getD k 0 < N ∧ t.testBit ((elm N (cpl N t)).getD k 0) = false := fun k hk => by
    have a := elm_lt (n := N) (s := cpl N t) (k := k) (by omega)
    have b := elm_bit (n := N) (s := cpl N t) (k := k) (by omega)
    refine ⟨a, ?_⟩
    rw [cpl_bit] at b
    simp only [Bool.and_eq_true, Bool.not_eq_true'] at b
    exact b.2
  have hoi : ∀ j k, j < L.length → k < L.length → (elm N (cpl N t)).getD j 0 = (elm N (cpl N t)).getD k 0 → j = k := fun j k hj hk e => by
    have a := elm_idx (n := N) (s := cpl N t) (k := j) (by omega)
    have b := elm_idx (n := N) (s := cpl N t) (k := k) (by omega)
    rw [e] at a
    omega
  constructor
  · intro hc
    obtain ⟨g, g1, g2⟩ := cut_sdr h.ends.1 hs hok ho hoi hO hc
    obtain ⟨N', n1, n2, n3⟩ := image_ex (n := L.length) g N (2 ^ L.length - 1) (full_lt _) (fun k hk => ((hO k (bit_lt (full_lt _) hk) _).1 (g1 k (bit_lt (full_lt _) hk)).1).1) fun j k hj hk e => g2 j k (bit_lt (full_lt _) hj) (bit_lt (full_lt _) hk) e
    have hfull : cnt L.length (2 ^ L.length - 1) = L.length := by
      have := cpl_cnt (m := L.length) (s := 0)
      rw [cpl, dif_zero, cnt_zero] at this; omega
    have hinc : Inc N' (cpl N s) := fun x hx => by
      obtain ⟨k, k1, rfl⟩ := (n3 x).1 hx
      have hk := bit_lt (full_lt _) k1
      rw [cpl_bit, (g1 k hk).2]
      simp [((hO k hk _).1 (g1 k hk).1).1]
    have eN : N' = cpl N s := inc_eq_of_cnt hinc (cpl_lt N s) (by rw [n2, hfull]; omega)
    have ch : ∀ x, ∃ k, (cpl N s).testBit x = true → k < L.length ∧ g k = x := fun x => by
      by_cases q : (cpl N s).testBit x = true
      · obtain ⟨k, k1, k2⟩ := (n3 x).1 (by rw [eN]; exact q)
        exact ⟨k, fun _ => ⟨bit_lt (full_lt _) k1, k2⟩⟩
      · exact ⟨0, fun w => absurd w q⟩
    obtain ⟨f, hf⟩ := Classical.axiomOfChoice ch
    refine ⟨f, fun x hx => ⟨(hf x hx).1, by simp, ?_⟩, fun x y hx hy e => ?_⟩
    · have := (g1 (f x) (hf x hx).1).1
      rw [(hf x hx).2] at this
      exact this
    · rw [← (hf x hx).2, ← (hf y hy).2, e]
  · rintro ⟨f, f1, f2⟩ S h0 h1
    obtain ⟨N', n1, n2, n3⟩ := image_ex (n := N) f L.length (cpl N s) (cpl_lt N s) (fun x hx => (f1 x hx).1) f2
    have hall := cnt_full (m := L.length) (s := N') (by rw [n2]; omega)
    have ch : ∀ k, ∃ x, k < L.length → (cpl N s).testBit x = true ∧ f x = k := fun k => by
      by_cases q : k < L.length
      · obtain ⟨x, x1, x2⟩ := (n3 k).1 (hall k q)
        exact ⟨x, fun _ => ⟨x1, x2⟩⟩
      · exact ⟨0, fun w => absurd w q⟩
    obtain ⟨g, hg⟩ := Classical.axiomOfChoice ch
    have hct : ∀ v, v < N → t.testBit v = false → (cpl N t).testBit v = true := fun v hv hb => by rw [cpl_bit, hb]; simp [hv]
    refine sdr_cut (g := fun v => g (cnt v (cpl N t))) hs (fun v hv hb => ?_) (fun v w hv hw hbv hbw e => ?_) S h0 h1
    · have hk : cnt v (cpl N t) < L.length := by rw [hL]; exact cnt_idx hv (hct v hv hb)
      obtain ⟨x1, x2⟩ := hg _ hk
      have x3 := (f1 _ x1).2.2
      rw [x2] at x3
      have x4 := (hO _ hk _).1 x3
      simp only [elm_at hv (hct v hv hb)] at x4
      refine ⟨x4.1, ?_, x4.2⟩
      rw [cpl_bit] at x1
      simp only [Bool.and_eq_true, Bool.not_eq_true'] at x1
      exact x1.2
    · have hk : cnt v (cpl N t) < L.length := by rw [hL]; exact cnt_idx hv (hct v hv hbv)
      have hk' : cnt w (cpl N t) < L.length := by rw [hL]; exact cnt_idx hw (hct w hw hbw)
      have ee : cnt v (cpl N t) = cnt w (cpl N t) := by
        rw [← (hg _ hk).2, ← (hg _ hk').2]
        exact congrArg f e
      have a := elm_at hv (hct v hv hbv)
      have b := elm_at hw (hct w hw hbw)
      rw [ee] at a
      rw [← a, b]
end Go.SH
