/-
 The statement LinksMenger as a plain law: the search for ways, cuts of the network and of vertices. Conditions: none.
-/
import Derived.Test.YtlpikingpnenkaaLmH
import Derived.Test.YtlpikingpnenkaaSkLinksMenger
set_option linter.unusedSimpArgs false
set_option linter.unusedVariables false
namespace Go.SH
open Go Go.AX
/-- The beginnings from v on. -/
def srcs (N s v : Nat) : List Nat := (List.range' v (N - v)).filter fun i => s.testBit i
theorem srcs_end {N s v : Nat} (h : N ≤ v) : srcs N s v = [] := by
 unfold srcs; rw [show N - v = 0 by omega]; rfl
theorem srcs_cons {N s v : Nat} (h : v < N) : srcs N s v = if s.testBit v = true then v :: srcs N s (v + 1) else srcs N s (v + 1) := by
 unfold srcs
 rw [show N - v = (N - (v + 1)) + 1 by omega, List.range'_succ, List.filter_cons]
theorem srcs_zero (N s : Nat) : srcs N s 0 = (List.range N).filter fun i => s.testBit i := by
 unfold srcs; rw [Nat.sub_zero, List.range_eq_range']
theorem srcs_len (N s : Nat) : (srcs N s 0).length = cnt N s := by rw [srcs_zero]; exact elm_len N s
section
variable {N s t : Nat} {E : List (Int × Int)}
theorem getD_mapcs (Q : List (List Nat)) (k : Nat) : (Q.map cs).getD k [] = cs (Q.getD k []) := by
 rw [List.getD_eq_getElem?_getD, List.getD_eq_getElem?_getD, List.getElem?_map]
 cases Q[k]? <;> rfl
theorem bitI (a i : Nat) : iand ((a : Int) / 2 ^ i) 1 = if a.testBit i then 1 else 0 := by have := bit_nat a i; rw [toNat_nat] at this; exact this
def OnSp (N : Nat) (E : List (Int × Int)) (s t k : Nat) : Prop := ∀ (p : List Nat) (u g v : Nat) (Q : List (List Nat)), p ≠ [] → p.getD (p.length - 1) 0 = u → u < N → g < 2 ^ N → N < cnt N g + k → p.length ≤ cnt N g → v < N → Q.length ≤ v →
 Gets (links_Ways_1 k (cs p) (g : Int) (v : Int) (t : Int) (N : Int) E (s : Int) (N : Int) E (Q.map cs)) (fun r => (r.1 = true ∧ ∃ r' ps, Wy N E t g u r' ∧ Sys N E t (srcs N s (v + 1)) (addl g r') ps ∧ r.2 = (Q ++ (p ++ r') :: ps).map cs) ∨
  (r.1 = false ∧ r.2 = Q.map cs ∧ ∀ r' ps, Wy N E t g u r' → ¬ Sys N E t (srcs N s (v + 1)) (addl g r') ps))
theorem next_spec (hN : N ≤ 7) {k : Nat} (hOn : OnSp N E s t k) {v g : Nat} {Q : List (List Nat)} (hv : v ≤ N) (hg : g < 2 ^ N) (hk : N ≤ cnt N g + k) (hQ : Q.length ≤ v) :
  Gets (links_Ways_2 (links_Ways_1 k) (v : Int) (g : Int) (N : Int) E (s : Int) (t : Int) (N : Int) E (s : Int) (N : Int) E (Q.map cs)) (fun r => (r.1 = true ∧ ∃ ps, Sys N E t (srcs N s v) g ps ∧ r.2 = (Q ++ ps).map cs) ∨
   (r.1 = false ∧ r.2 = Q.map cs ∧ ∀ ps, ¬ Sys N E t (srcs N s v) g ps)) := by
 unfold links_Ways_2
 refine gBind (R := fun x => ∃ w : Nat, x = (w : Int) ∧ v ≤ w ∧ w ≤ N ∧ srcs N s v = srcs N s w ∧ (w = N ∨ s.testBit w = true))
  (gFor (k0 := v) N (fun w (x : Int) => x = (w : Int) ∧ v ≤ w ∧ srcs N s v = srcs N s w) hv ⟨rfl, Nat.le_refl _, rfl⟩ ?_) ?_
 ·rintro w _ hw ⟨rfl, h1, h2⟩
  refine gChk (fun _ => by omega) ?_
  rw [toNat_nat, bitI]
  refine gIte (fun c => gChk (by omega) (gSome ⟨by omega, by simp, by omega, ?_⟩)) fun c => gSome ⟨w, rfl, h1, hw, h2, ?_⟩
  ·rw [h2, srcs_cons (by omega), if_neg]
   intro q; rw [q] at c; simp at c
  ·rcases Nat.lt_or_ge w N with q | q
   ·right
    cases z : s.testBit w with
    | true => rfl
    | false => rw [z] at c; exact absurd ⟨by omega, rfl⟩ c
   ·left; omega
 ·rintro _ ⟨w, rfl, h1, h2, h3, h4⟩
  rw [h3]
  refine gIte (fun c => gSome (.inl ⟨rfl, [], by rw [srcs_end (by omega)]; trivial, by rw [List.append_nil]⟩)) fun c => ?_
  have hw : w < N := by omega
  have hb : s.testBit w = true := h4.resolve_left (by omega)
  rw [srcs_cons hw, if_pos hb]
  refine gChk (by omega) ?_
  rw [toNat_nat, bitI, shl_nat', or_nat]
  refine gIte (fun q => gChk (by omega) ?_) fun q => gSome (.inr ⟨rfl, rfl, fun ps => ?_⟩)
  ·have hgw : g.testBit w = false := by
    cases z : g.testBit w with
    | false => rfl
    | true => rw [z] at q; simp at q
   have hc := cnt_add hw hgw
   refine gBind (hOn [w] w (g ||| 2 ^ w) w Q (by simp) rfl hw (or_lt hg (Nat.pow_lt_pow_right (by omega) hw)) (by omega) (by show 1 ≤ _; omega) hw (by omega)) fun y hy => gSome ?_
   rcases hy with ⟨y1, r', ps, z1, z2, z3⟩ | ⟨y1, y2, y3⟩
   ·exact .inl ⟨y1, (w :: r') :: ps, ⟨hgw, r', rfl, z1, z2⟩, z3⟩
   ·refine .inr ⟨y1, y2, fun ps hps => ?_⟩
    cases ps with
    | nil => exact hps
    | cons p ps =>
     obtain ⟨_, r, rfl, w1, w2⟩ := hps
     exact y3 r ps w1 w2
  ·intro hps
   cases ps with
   | nil => exact hps
   | cons p ps => rw [hps.1] at q; simp at q
theorem on_spec (h : CG (N : Int) E) : ∀ k, OnSp N E s t k := by
 have hn7 := h.n7
 intro k
 induction k with
 | zero => intro p u g v Q _ _ _ _ hk; have := cnt_le N g; omega
 | succ k ih =>
  intro p u g v Q hp hu huN hg hk hpl hv hQ
  have hN : N ≤ 7 := by omega
  have hgc := cnt_le N g
  have hp1 : 1 ≤ p.length := by cases p with | nil => exact absurd rfl hp | cons => simp
  have hlast : (cs p).getD (((cs p).length : Int) - 1).toNat 0 = (u : Int) := by
   rw [cs_len, show ((p.length : Int) - 1).toNat = p.length - 1 by omega, cs_get, hu]
  rw [links_Ways_1.eq_2]
  refine gChk (by rw [cs_len]; omega) ?_
  simp only [hlast]
  refine gJoin (R := fun q => q = Q.map cs ∧ (t.testBit u = true → ∀ ps, ¬ Sys N E t (srcs N s (v + 1)) g ps)) ?_ ?_
  ·rintro _ ⟨rfl, hno⟩
   refine gBind (R := fun z => match z with | .inl q => q = Q.map cs ∧ ∀ w', w' < N → ∀ r' ps, Wy N E t g u (w' :: r') → ¬ Sys N E t (srcs N s (v + 1)) (addl g (w' :: r')) ps | .inr r => r.1 = true ∧ ∃ r' ps, Wy N E t g u r' ∧ Sys N E t (srcs N s (v + 1)) (addl g r') ps ∧ r.2 = (Q ++ (p ++ r') :: ps).map cs)
    (gFor N (fun w (x : List (List Int) × Int) => x.2 = (w : Int) ∧ x.1 = Q.map cs ∧ ∀ w', w' < w → ∀ r' ps, Wy N E t g u (w' :: r') → ¬ Sys N E t (srcs N s (v + 1)) (addl g (w' :: r')) ps) (Nat.zero_le _) ⟨rfl, rfl, fun w' hw' => absurd hw' (Nat.not_lt_zero _)⟩ ?_) ?_
   ·rintro w ⟨_, _⟩ hw ⟨rfl, rfl, hall⟩
    simp only [toNat_nat, bitI]
    refine gIte (fun c => gChk (by omega) ?_) fun c => gSome ⟨rfl, fun w' hw' => hall w' (by omega)⟩
    have hwN : w < N := by omega
    refine gBind (R := fun b => g.testBit w = false → (b = true ↔ Edge E u w)) ?_ fun b hb => ?_
    ·cases z : g.testBit w with
     | true => exact gSome fun q => by cases q
     | false =>
      simp only [Bool.false_eq_true, if_false]
      refine gSome fun _ => ?_
      rw [decide_eq_true_eq]; exact edge_mem h u w
    ·refine gIte (fun q => gSome ⟨hwN, by simp, rfl, fun w' hw' r' ps hW => ?_⟩) fun q => ?_
     ·rcases Nat.lt_or_ge w' w with z | z
      ·exact hall w' z r' ps hW
      ·have : w' = w := by omega
       subst this
       obtain ⟨_, m2, m3, _⟩ := hW
       rw [m2] at q
       simp only [Bool.false_eq_true, if_false] at q
       rcases q with q | q
       ·cases q
       ·exact absurd ((hb m2).2 m3) q
     ·have hgw : g.testBit w = false := by
       cases z : g.testBit w with
       | false => rfl
       | true => rw [z] at q; exact absurd (.inl rfl) q
      have hbt : b = true := by
       cases b with
       | true => rfl
       | false => exact absurd (.inr (by simp)) q
      have hed := (hb hgw).1 hbt
      have hc := cnt_add hwN hgw
      refine gChk (by rw [cs_len]; omega) (gChk (by rw [List.length_append, cs_len]; simp only [List.length_cons, List.length_nil]; omega) (gChk (by omega) ?_))
      rw [shl_nat', or_nat, cs_app]
      refine gBind (ih (p ++ [w]) w (g ||| 2 ^ w) v Q (by simp) (by rw [List.length_append]; simp [List.getD_eq_getElem?_getD]) hwN (or_lt hg (Nat.pow_lt_pow_right (by omega) hwN)) (by omega) (by rw [List.length_append]; simp only [List.length_cons, List.length_nil]; omega) hv hQ) fun y hy => ?_
      rcases hy with ⟨y1, r', ps, z1, z2, z3⟩ | ⟨y1, y2, y3⟩
      ·refine gIte (fun _ => gSome ⟨rfl, w :: r', ps, ⟨hwN, hgw, hed, z1⟩, z2, ?_⟩) fun q => absurd y1 q
       simp only [z3]
       rw [List.append_assoc]; rfl
      ·refine gIte (fun q => absurd q (by rw [y1]; simp)) fun _ => gSome ⟨hwN, by simp, y2, fun w' hw' r' ps hW => ?_⟩
       rcases Nat.lt_or_ge w' w with z | z
       ·exact hall w' z r' ps hW
       ·have : w' = w := by omega
        subst this
        exact y3 r' ps hW.2.2.2
   ·rintro z hz
    cases z with
    | inl q =>
     refine gSome (.inr ⟨rfl, hz.1, fun r' ps hW hS => ?_⟩)
     cases r' with
     | nil => exact hno hW ps hS
     | cons w r' => exact hz.2 w hW.1 r' ps hW hS
    | inr r => exact gSome (.inl hz)
  ·intro j hj
   refine gChk (by omega) ?_
   simp only [toNat_nat, bitI]
   refine gIte (fun c => ?_) fun c => hj _ ⟨rfl, fun q => by rw [q] at c; exact absurd rfl c⟩
   have htu : t.testBit u = true := by
    cases z : t.testBit u with
    | true => rfl
    | false => rw [z] at c; simp at c
   refine gChk (by rw [cs_len]; omega) (gChk (by rw [List.length_append, List.length_map]; simp only [List.length_cons, List.length_nil]; omega) (gChk (by omega) ?_))
   have eQ : Q.map cs ++ [cs p] = (Q ++ [p]).map cs := by rw [List.map_append]; rfl
   rw [eQ]
   refine gBind (next_spec (v := v + 1) hN ih (by omega) hg (by omega) (Q := Q ++ [p]) (by rw [List.length_append]; simp only [List.length_cons, List.length_nil]; omega)) fun y hy => ?_
   rcases hy with ⟨y1, ps, z1, z2⟩ | ⟨y1, y2, y3⟩
   ·refine gIte (fun _ => gSome (.inl ⟨rfl, [], ps, htu, z1, ?_⟩)) fun q => absurd y1 q
    simp only [z2, List.append_nil]
    rw [List.append_assoc]; rfl
   ·refine gIte (fun q => absurd q (by rw [y1]; simp)) fun _ => ?_
    rw [y2]
    have hl : ((Q ++ [p]).map cs).length = Q.length + 1 := by simp
    refine gChk (by rw [hl]; omega) (hj _ ⟨?_, fun _ => y3⟩)
    rw [hl, show (((Q.length + 1 : Nat) : Int) - 1).toNat = (Q.map cs).length by rw [List.length_map]; omega, List.map_append, List.take_left]
theorem Ways_ok (h : CG (N : Int) E) (hs : s < 2 ^ N) (ht : t < 2 ^ N) : Gets (links_Ways N E (s : Int) (t : Int)) (fun r => (r.2 = 0 ∧ ∃ ps, Sys N E t (srcs N s 0) 0 ps ∧ r.1 = ps.map cs) ∨ (r.2 = 5 ∧ r.1 = [] ∧ ∀ ps, ¬ Sys N E t (srcs N s 0) 0 ps)) := by
 have hn7 := h.n7
 unfold links_Ways
 refine gBind (right_spec N E [(s : Int), (t : Int)]) fun e he => gIte (fun q => absurd (he.2 ⟨h, fun k hk => ?_⟩) q) fun _ => ?_
 ·rw [toNat_nat]
  rcases (show k = 0 ∨ k = 1 by simp at hk; omega) with rfl | rfl
  ·show 0 ≤ (s : Int) ∧ (s : Int) < _
   omega
  ·show 0 ≤ (t : Int) ∧ (t : Int) < _
   omega
 refine gBind (next_spec (v := 0) (g := 0) (Q := []) (by omega) (on_spec h 20) (Nat.zero_le _) (Nat.pow_pos (by omega)) (by omega) (Nat.le_refl _)) fun y hy => ?_
 rcases hy with ⟨y1, ps, z1, z2⟩ | ⟨y1, y2, y3⟩
 ·exact gIte (fun q => absurd y1 q) fun _ => gSome (.inl ⟨rfl, ps, z1, by rw [z2]; rfl⟩)
 ·exact gIte (fun _ => gSome (.inr ⟨rfl, rfl, y3⟩)) fun q => absurd (by rw [y1]; simp) q
/-! ### cuts of the network and of vertices -/
theorem cut_sep (h : CG (N : Int) E) (hs : s < 2 ^ N) (S : Nat → Bool) (h0 : S 0 = true) (h1 : S 1 = false) : ∃ C, C < 2 ^ N ∧ Sep E s t C ∧ ((cnt N C : Nat) : Int) ≤ outS (2 + 2 * N) (lay E s t N E.length) S := by
 classical
 let cb : Nat → Bool := fun v => decide ((s.testBit v = true ∧ S (2 + 2 * v) = false) ∨ (S (2 + 2 * v) = true ∧ S (3 + 2 * v) = false) ∨ (S (3 + 2 * v) = true ∧ t.testBit v = true) ∨ (S (2 + 2 * v) = false ∧ ∃ a, a < N ∧ S (3 + 2 * a) = true ∧ Edge E a v))
 have hC : ∀ v, (mkset N cb).testBit v = true ↔ v < N ∧ ((s.testBit v = true ∧ S (2 + 2 * v) = false) ∨ (S (2 + 2 * v) = true ∧ S (3 + 2 * v) = false) ∨ (S (3 + 2 * v) = true ∧ t.testBit v = true) ∨ (S (2 + 2 * v) = false ∧ ∃ a, a < N ∧ S (3 + 2 * a) = true ∧ Edge E a v)) := fun v => by
  rw [mkset_bit, Bool.and_eq_true, decide_eq_true_eq, decide_eq_true_eq]
 have hnC : ∀ v, v < N → (mkset N cb).testBit v = false → S (3 + 2 * v) = true → S (2 + 2 * v) = true → t.testBit v = false := fun v hv hc hw hu => by
  cases q : t.testBit v with
  | false => rfl
  | true => rw [(hC v).2 ⟨hv, .inr (.inr (.inl ⟨hw, q⟩))⟩] at hc; cases hc
 refine ⟨mkset N cb, mkset_lt N cb, ⟨mkset N fun v => S (3 + 2 * v) && !(mkset N cb).testBit v, fun i hi => ?_, fun a b ha hed hb => ?_, fun i hi => ?_⟩, ?_⟩
 ·rw [testBit_dif, Bool.and_eq_true, Bool.not_eq_true'] at hi
  have hiN := bit_lt hs hi.1
  rw [mkset_bit, Bool.and_eq_true, Bool.and_eq_true, Bool.not_eq_true', decide_eq_true_eq]
  refine ⟨hiN, ?_, hi.2⟩
  cases u : S (2 + 2 * i) with
  | false => rw [(hC i).2 ⟨hiN, .inl ⟨hi.1, u⟩⟩] at hi; cases hi.2
  | true =>
   cases w : S (3 + 2 * i) with
   | true => rfl
   | false => rw [(hC i).2 ⟨hiN, .inr (.inl ⟨u, w⟩)⟩] at hi; cases hi.2
 ·rw [mkset_bit, Bool.and_eq_true, Bool.and_eq_true, Bool.not_eq_true', decide_eq_true_eq] at ha ⊢
  have hbN := (Edge.lt h hed).2
  refine ⟨hbN, ?_, hb⟩
  cases u : S (2 + 2 * b) with
  | false => rw [(hC b).2 ⟨hbN, .inr (.inr (.inr ⟨u, a, ha.1, ha.2.1, hed⟩))⟩] at hb; cases hb
  | true =>
   cases w : S (3 + 2 * b) with
   | true => rfl
   | false => rw [(hC b).2 ⟨hbN, .inr (.inl ⟨u, w⟩)⟩] at hb; cases hb
 ·rw [mkset_bit, Bool.and_eq_true, Bool.and_eq_true, Bool.not_eq_true', decide_eq_true_eq] at hi
  cases q : t.testBit i with
  | false => rfl
  | true => rw [(hC i).2 ⟨hi.1, .inr (.inr (.inl ⟨hi.2.1, q⟩))⟩] at hi; cases hi.2.2
 ·rw [out_lay s t S h0 h1, ← sm_cnt]
  have hF : ∀ a, a < N → sm N (fun v => if S (3 + 2 * a) = true then (if S (2 + 2 * v) = true then (0 : Int) else if Edge E a v then 1 else 0) else 0) = if S (3 + 2 * a) = true then sm N (fun b => if S (2 + 2 * b) = true then 0 else if Edge E a b then 1 else 0) else 0 := fun a _ => by
   by_cases c : S (3 + 2 * a) = true
   ·rw [if_pos c]; exact sm_congr fun v _ => by rw [if_pos c]
   ·rw [if_neg c]; exact sm_zero fun v _ => by rw [if_neg c]
  have hle : sm N (fun v => bitZ (mkset N cb) v) ≤ sm N (fun v => (if S (2 + 2 * v) = true then 0 else bitZ s v) + (((if S (2 + 2 * v) = true then (if S (3 + 2 * v) = true then (0 : Int) else 1) else 0) + (if S (3 + 2 * v) = true then bitZ t v else 0)) + sm N (fun a => if S (3 + 2 * a) = true then (if S (2 + 2 * v) = true then (0 : Int) else if Edge E a v then 1 else 0) else 0))) := sm_le fun v hv => by
   have b1 := bitZ_bd s v
   have b2 := bitZ_bd t v
   have b3 := bitZ_bd (mkset N cb) v
   have b4 : 0 ≤ sm N (fun a => if S (3 + 2 * a) = true then (if S (2 + 2 * v) = true then (0 : Int) else if Edge E a v then 1 else 0) else 0) := sm_nn fun a _ => by
    split
    ·split
     ·omega
     ·split <;> omega
    ·omega
   have b5 : (S (2 + 2 * v) = false ∧ ∃ a, a < N ∧ S (3 + 2 * a) = true ∧ Edge E a v) → 1 ≤ sm N (fun a => if S (3 + 2 * a) = true then (if S (2 + 2 * v) = true then (0 : Int) else if Edge E a v then 1 else 0) else 0) := by
    rintro ⟨q1, a, a1, a2, a3⟩
    have e := sm_one (f := fun x => if x = a then (1 : Int) else 0) a1 fun i _ q => if_neg q
    rw [if_pos rfl] at e
    refine Int.le_trans (Int.le_of_eq e.symm) (sm_le fun x _ => ?_)
    by_cases z : x = a
    ·subst z
     rw [if_pos rfl, if_pos a2, if_neg (by rw [q1]; simp), if_pos a3]
     exact Int.le_refl _
    ·rw [if_neg z]
     split
     ·split
      ·omega
      ·split <;> omega
     ·omega
   generalize sm N (fun a => if S (3 + 2 * a) = true then (if S (2 + 2 * v) = true then (0 : Int) else if Edge E a v then 1 else 0) else 0) = Z at b4 b5 ⊢
   have c1 : 0 ≤ (if S (2 + 2 * v) = true then (0 : Int) else bitZ s v) := by split <;> omega
   have c2 : 0 ≤ (if S (2 + 2 * v) = true then (if S (3 + 2 * v) = true then (0 : Int) else 1) else 0) := by split <;> (try split) <;> omega
   have c3 : 0 ≤ (if S (3 + 2 * v) = true then bitZ t v else 0) := by split <;> omega
   by_cases c : (mkset N cb).testBit v = true
   ·have hone : bitZ (mkset N cb) v = 1 := by unfold bitZ; rw [if_pos c]
    rw [hone]
    rcases ((hC v).1 c).2 with ⟨q1, q2⟩ | ⟨q1, q2⟩ | ⟨q1, q2⟩ | q
    ·have e : (if S (2 + 2 * v) = true then (0 : Int) else bitZ s v) = 1 := by rw [if_neg (by rw [q2]; simp)]; unfold bitZ; rw [if_pos q1]
     omega
    ·have e : (if S (2 + 2 * v) = true then (if S (3 + 2 * v) = true then (0 : Int) else 1) else 0) = 1 := by rw [if_pos q1, if_neg (by rw [q2]; simp)]
     omega
    ·have e : (if S (3 + 2 * v) = true then bitZ t v else 0) = 1 := by rw [if_pos q1]; unfold bitZ; rw [if_pos q2]
     omega
    ·have := b5 q
     omega
   ·have hz : bitZ (mkset N cb) v = 0 := by unfold bitZ; rw [if_neg c]
    rw [hz]
    omega
  refine Int.le_trans hle (Int.le_of_eq ?_)
  rw [sm_add, sm_add, sm_comm (fun v a => if S (3 + 2 * a) = true then (if S (2 + 2 * v) = true then (0 : Int) else if Edge E a v then 1 else 0) else 0), sm_congr hF, ← sm_add]
  congr 1
  refine sm_congr fun v _ => ?_
  by_cases c : S (3 + 2 * v) = true
  ·simp only [if_pos c]; omega
  ·simp only [if_neg c]; omega
theorem sep_cut (h : CG (N : Int) E) (hs : s < 2 ^ N) {C : Nat} (hC : C < 2 ^ N) (hS : Sep E s t C) : ∃ S : Nat → Bool, S 0 = true ∧ S 1 = false ∧ outS (2 + 2 * N) (lay E s t N E.length) S = ((cnt N C : Nat) : Int) := by
 classical
 obtain ⟨W, w1, w2, w3⟩ := hS
 let S : Nat → Bool := fun x => if x = 0 then true else if x = 1 then false else if x % 2 = 0 then W.testBit (x / 2 - 1) || C.testBit (x / 2 - 1) else W.testBit (x / 2 - 1) && !C.testBit (x / 2 - 1)
 have hU : ∀ v, S (2 + 2 * v) = (W.testBit v || C.testBit v) := fun v => by
  show (if 2 + 2 * v = 0 then true else if 2 + 2 * v = 1 then false else if (2 + 2 * v) % 2 = 0 then _ else _) = _
  rw [if_neg (by omega), if_neg (by omega), if_pos (by omega), show (2 + 2 * v) / 2 - 1 = v by omega]
 have hW : ∀ v, S (3 + 2 * v) = (W.testBit v && !C.testBit v) := fun v => by
  show (if 3 + 2 * v = 0 then true else if 3 + 2 * v = 1 then false else if (3 + 2 * v) % 2 = 0 then _ else _) = _
  rw [if_neg (by omega), if_neg (by omega), if_neg (by omega), show (3 + 2 * v) / 2 - 1 = v by omega]
 refine ⟨S, rfl, rfl, ?_⟩
 rw [out_lay s t S rfl rfl, ← sm_cnt, sm_zero, Int.zero_add]
 ·refine sm_congr fun v hv => ?_
  rw [hU v, hW v]
  have hin : sm N (fun b => if S (2 + 2 * b) = true then (0 : Int) else if Edge E v b then 1 else 0) = 0 ∨ ¬ (W.testBit v && !C.testBit v) = true := by
   by_cases q : (W.testBit v && !C.testBit v) = true
   ·left
    rw [Bool.and_eq_true, Bool.not_eq_true'] at q
    refine sm_zero fun b hb => ?_
    rw [hU b]
    by_cases e : Edge E v b
    ·cases c : C.testBit b with
     | true => simp
     | false => rw [w2 v b q.1 e c]; simp
    ·rw [if_neg e]; split <;> rfl
   ·exact .inr q
  unfold bitZ
  cases cW : W.testBit v <;> cases cC : C.testBit v <;> simp only [cW, cC, Bool.or_true, Bool.or_false, Bool.true_or, Bool.and_true, Bool.not_false, Bool.not_true, Bool.and_false, Bool.false_and, Bool.false_eq_true, if_true, if_false] at hin ⊢ <;> try rfl
  rw [hin.resolve_right (by simp), w3 v cW]; rfl
 ·intro v hv
  rw [hU v]
  cases cs_ : s.testBit v with
  | false => split <;> simp [bitZ, cs_]
  | true =>
   cases cC : C.testBit v with
   | true => simp
   | false =>
    have := w1 v (by rw [testBit_dif, cs_, cC]; rfl)
    rw [this]; simp
/-- So many ways, so many in each cut. -/
theorem sys_cut (h : CG (N : Int) E) (hs : s < 2 ^ N) {A : List Nat} {ps : List (List Nat)} (hS : Sys N E t A 0 ps) (hA : ∀ a, a ∈ A → s.testBit a = true) {C : Nat} (hC : C < 2 ^ N) (hc : Sep E s t C) : A.length ≤ cnt N C := by
 obtain ⟨W, w1, w2, w3⟩ := hc
 have := hS.le (s := s) hC (W := W) ⟨fun i hi hb => w1 i (by rw [testBit_dif, hi, hb]; rfl), w2, w3⟩ hA
 have e : dif C 0 = C := Nat.eq_of_testBit_eq fun i => by rw [testBit_dif]; simp
 rw [e] at this; exact this
theorem least_sep (h : CG (N : Int) E) (hs : s < 2 ^ N) {n : Int} (hn : Least (2 + 2 * N) (lay E s t N E.length) n) {C : Nat} (hC : C < 2 ^ N) (hc : Sep E s t C) (hall : ∀ C', C' < 2 ^ N → Sep E s t C' → cnt N C ≤ cnt N C') : n = ((cnt N C : Nat) : Int) := by
 obtain ⟨h1, S, s0, s1, s2⟩ := hn
 obtain ⟨S', a0, a1, a2⟩ := sep_cut (t := t) h hs hC hc
 obtain ⟨C', c1, c2, c3⟩ := cut_sep (t := t) h hs S s0 s1
 have := h1 S' a0 a1
 have := hall C' c1 c2
 omega
theorem most01 : Gets (links_Most 2 [(0, 1)] 1 2) (fun y => y.2 = 0 ∧ y.1 = 1) := by
  have hg : CG ((2 : Nat) : Int) [(0, 1)] := ⟨by decide, by decide, by decide, fun k hk => by
    have : k = 0 := by simp at hk; omega
    subst this; decide⟩
  refine (Most_ok hg (s := 1) (t := 2) (by decide) (by decide)).mono fun y hy => ⟨hy.1, ?_⟩
  have hS : Sys 2 [(0, 1)] 2 [0] 0 [[0, 1]] := ⟨rfl, [1], rfl, ⟨by omega, by decide, ⟨0, by decide, rfl, rfl⟩, (by decide : Nat.testBit 2 1 = true)⟩, trivial⟩
  have := (ways_eq hy.2.1).2 fun S s0 s1 => by
    obtain ⟨C, c1, c2, c3⟩ := cut_sep (s := 1) (t := 2) hg (by decide) S s0 s1
    have k := sys_cut hg (s := 1) (by decide) hS (fun a ha => by have : a = 0 := by simpa using ha
                                                                 subst this; decide) c1 c2
    have e : cnt 2 1 = 1 := by decide
    simp only [List.length_cons, List.length_nil] at k
    omega
  rw [this]; decide
end
end Go.SH
