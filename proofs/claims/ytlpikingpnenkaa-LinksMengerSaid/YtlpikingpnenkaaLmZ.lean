/-
 The statement LinksMenger as a plain law. Conditions: none.
-/
import Derived.Test.YtlpikingpnenkaaLmL
set_option linter.unusedSimpArgs false
set_option linter.unusedVariables false
namespace Go.SH
open Go Go.AX
section
variable {N s t : Nat} {E : List (Int × Int)}
theorem els_srcs (h8 : N ≤ 8) (hs : s < 2 ^ N) : els s = srcs N s 0 := by
 rw [srcs_zero]
 unfold els
 have : ∀ k, N ≤ k → ((List.range k).filter fun i => s.testBit i) = (List.range N).filter fun i => s.testBit i := by
  intro k
  induction k with
  | zero => intro hk; rw [show N = 0 by omega]
  | succ k ih =>
   intro hk
   rcases Nat.lt_or_ge k N with q | q
   ·rw [show N = k + 1 by omega]
   ·rw [List.range_succ, List.filter_append, ih q]
    simp [bit_ge hs q]
 exact this 8 h8
theorem Wy.last {g u : Nat} {r : List Nat} (h : Wy N E t g u r) : t.testBit ((u :: r).getD r.length 0) = true := by
 induction r generalizing g u with
 | nil => exact h
 | cons w r ih =>
  have := ih h.2.2.2
  simpa [List.getD_eq_getElem?_getD] using this
theorem drop_getD {α : Type} {l : List α} {d : α} {k : Nat} (h : k < l.length) : l.drop k = l.getD k d :: l.drop (k + 1) := by
 rw [List.getD_eq_getElem?_getD, List.getElem?_eq_getElem h]
 exact List.drop_eq_getElem_cons h
theorem Wy.ltN {g u : Nat} {r : List Nat} (h : Wy N E t g u r) (hu : u < N) : ∀ k, k < (u :: r).length → (u :: r).getD k 0 < N := by
 intro k hk
 cases k with
 | zero => exact hu
 | succ k =>
  have hkr : k < r.length := by simpa using hk
  have := h.lt _ (getD_mem hkr)
  simpa [List.getD_eq_getElem?_getD] using this
theorem Wy.len {g u : Nat} {r : List Nat} (h : Wy N E t g u r) : cnt N g + r.length ≤ N := by
 induction r generalizing g u with
 | nil => have := cnt_le N g; simpa using this
 | cons w r ih =>
  have := ih h.2.2.2
  rw [cnt_add h.1 h.2.1] at this
  simp only [List.length_cons]; omega
/-- What is left of a way behind its first k vertices. -/
def Rem (N : Nat) (E : List (Int × Int)) (t g G : Nat) (p : List Nat) (gk : Nat) : Nat → Prop
 | 0 => gk = g
 | k + 1 => Wy N E t gk (p.getD k 0) (p.drop (k + 1)) ∧ addl gk (p.drop (k + 1)) = G
theorem check_way (h : CG (N : Int) E) {g a : Nat} {r : List Nat} (hg : g < 2 ^ N) (ha : a < N) (hga : g.testBit a = false) (hW : Wy N E t (g ||| 2 ^ a) a r) (l : List Int) (hl : l = cs (a :: r)) :
  Gets (loopM (ρ := Int ⊕ Bool) (fun ((v2, v3) : Int × Int) =>
 if v3 < (l.length : Int) then
 chk ((0 ≤ v3 ∧ v3 < l.length)) <|
 (if ¬ ((l.getD v3.toNat 0 < 0 ∨ (N : Int) ≤ l.getD v3.toNat 0)) then rotaref_In v2 (l.getD v3.toNat 0) else some false).bind fun y9 =>
 chk ((((¬ (((l.getD v3.toNat 0 < 0 ∨ (N : Int) ≤ l.getD v3.toNat 0) ∨ y9 = true))) ∧ 0 < v3) → (-9223372036854775808 ≤ (v3 - 1 : Int) ∧ (v3 - 1 : Int) ≤ 9223372036854775807)) ∧ (((¬ (((l.getD v3.toNat 0 < 0 ∨ (N : Int) ≤ l.getD v3.toNat 0) ∨ y9 = true))) ∧ 0 < v3) → (0 ≤ v3 - 1 ∧ v3 - 1 < l.length))) <|
 (if ((¬ (((l.getD v3.toNat 0 < 0 ∨ (N : Int) ≤ l.getD v3.toNat 0) ∨ y9 = true))) ∧ 0 < v3) then slices_Contains_api_Edge_api_Edge E (l.getD (v3 - 1).toNat 0) (l.getD v3.toNat 0) else some false).bind fun y10 =>
 if (((l.getD v3.toNat 0 < 0 ∨ (N : Int) ≤ l.getD v3.toNat 0) ∨ y9 = true) ∨ (0 < v3 ∧ ¬ (y10 = true))) then
 some (.inr (.inr false))
 else
 chk ((0 ≤ l.getD v3.toNat 0 ∧ l.getD v3.toNat 0 ≤ 62)) <|
 some (.inl (ior v2 (2 ^ (l.getD v3.toNat 0).toNat : Int), v3 + 1))
 else
 some (.inr (.inl v2))) ((g : Int), 0)) (fun z => z = .inl ((addl (g ||| 2 ^ a) r : Nat) : Int)) := by
 have hn7 := h.n7
 subst hl
 have hlen : (a :: r).length = r.length + 1 := rfl
 have hrl := hW.len
 generalize hp : a :: r = p at *
 have hlt : ∀ k, k < p.length → p.getD k 0 < N := by rw [← hp]; exact hW.ltN ha
 refine gFor p.length (fun k (x : Int × Int) => x.2 = (k : Int) ∧ ∃ gk : Nat, x.1 = (gk : Int) ∧ gk < 2 ^ N ∧ Rem N E t g (addl (g ||| 2 ^ a) r) p gk k) (Nat.zero_le _) ⟨rfl, g, rfl, hg, rfl⟩ ?_
 rintro k ⟨_, _⟩ hk ⟨rfl, gk, rfl, hgk, hR⟩
 simp only [cs_len, cs_get, toNat_nat]
 refine gIte (fun c => gChk (by omega) ?_) fun c => gSome ?_
 ·have hkp : k < p.length := by omega
  have hv := hlt k hkp
  have hno : ¬ (((p.getD k 0 : Nat) : Int) < 0 ∨ (N : Int) ≤ ((p.getD k 0 : Nat) : Int)) := by omega
  have hfree : gk.testBit (p.getD k 0) = false := by
   cases k with
   | zero => rw [show gk = g from hR, ← hp]; exact hga
   | succ k =>
    have := hR.1
    rw [drop_getD (d := 0) hkp] at this
    exact this.2.1
  rw [if_pos hno, rotaref_In_nat, hfree, Option.bind_some]
  refine gChk ⟨fun q => by omega, fun q => by omega⟩ ?_
  refine gBind (R := fun b => 0 < k → b = true) ?_ fun y10 h10 => ?_
  ·by_cases c0 : (0 : Int) < (k : Int)
   ·rw [if_pos ⟨fun q => q.elim hno (by simp), c0⟩]
    refine gSome fun _ => ?_
    obtain ⟨k', rfl⟩ : ∃ k', k = k' + 1 := ⟨k - 1, by omega⟩
    rw [show (((k' + 1 : Nat) : Int) - 1).toNat = k' by omega, decide_eq_true_eq]
    have := hR.1
    rw [drop_getD (d := 0) hkp] at this
    exact (edge_mem h _ _).2 this.2.2.1
   ·rw [if_neg fun q => c0 q.2]
    exact gSome fun q => absurd (by omega) c0
  ·refine gIte (fun q => ?_) fun _ => gChk (by omega) ?_
   ·rcases q with (q | q) | ⟨q, w⟩
    ·exact absurd q hno
    ·cases q
    ·exact absurd (h10 (by omega)) w
   ·rw [shl_nat', or_nat]
    refine gSome ⟨hkp, by simp, gk ||| 2 ^ p.getD k 0, rfl, or_lt hgk (Nat.pow_lt_pow_right (by omega) hv), ?_⟩
    cases k with
    | zero =>
     have e : gk = g := hR
     subst e
     rw [← hp]
     exact ⟨hW, rfl⟩
    | succ k =>
     obtain ⟨h1, h2⟩ := hR
     rw [drop_getD (d := 0) hkp] at h1 h2
     exact ⟨h1.2.2.2, h2⟩
 ·have hkp : k = p.length := by omega
  obtain ⟨k', rfl⟩ : ∃ k', k = k' + 1 := ⟨k - 1, by rw [← hp] at hkp; simp at hkp; omega⟩
  have h2 := hR.2
  rw [List.drop_of_length_le (by omega)] at h2
  rw [← h2]; rfl
theorem srcs_mem {a : Nat} (h : a ∈ srcs N s 0) : a < N ∧ s.testBit a = true := by
 rw [srcs_zero, List.mem_filter, List.mem_range] at h
 exact h
theorem rotakeep_LinksMenger_law (g : Int) (E : List (Int × Int)) (a b : Int) : rotakeep_LinksMenger g E a b = some true := by
 refine Gets.eq ?_
 unfold rotakeep_LinksMenger
 refine gBind most01 fun y0 h0 => gIte (fun q => absurd h0 (by omega)) fun _ => ?_
 obtain ⟨e, he, hsp⟩ := right_spec g E [a, b]
 by_cases e0 : e = 0
 case neg =>
  refine gBindE (a := (0, e)) (by unfold links_Most; rw [he, Option.bind_some, if_pos e0]) ?_
  refine gBindE (a := (0, e)) (by unfold links_Cut; rw [he, Option.bind_some, if_pos e0]) ?_
  refine gBindE (a := ([], e)) (by unfold links_Ways; rw [he, Option.bind_some, if_pos e0]) ?_
  exact gIte (fun _ => gSome (by simp)) fun q => absurd e0 q
 obtain ⟨hg, hb⟩ := hsp.1 e0
 have b0 := hb 0 (by simp)
 have b1 := hb 1 (by simp)
 have hn1 := hg.n1
 have hn7 := hg.n7
 obtain ⟨N, rfl⟩ : ∃ N : Nat, g = N := ⟨g.toNat, by omega⟩
 rw [toNat_nat] at b0 b1
 obtain ⟨s, rfl⟩ : ∃ s : Nat, a = s := ⟨a.toNat, by have := b0.1; simp at this; omega⟩
 obtain ⟨t, rfl⟩ : ∃ t : Nat, b = t := ⟨b.toNat, by have := b1.1; simp at this; omega⟩
 have hs : s < 2 ^ N := by have := b0.2; simp only [List.getD_cons_zero] at this; exact Int.ofNat_lt.1 this
 have ht : t < 2 ^ N := by have := b1.2; simp only [List.getD_cons_succ, List.getD_cons_zero] at this; exact Int.ofNat_lt.1 this
 have h8 : N ≤ 8 := by omega
 have hAs : ∀ x, x ∈ srcs N s 0 → s.testBit x = true := fun x hx => (srcs_mem hx).2
 refine gBind (Most_ok hg hs ht) fun y1 h1 => ?_
 refine gBind (Cut_ok hg hs ht) ?_
 rintro ⟨_, _⟩ ⟨rfl, C, hC0, hC, hS, hall⟩
 simp only at hC0
 subst hC0
 have hnC := least_sep hg hs h1.2.1 hC hS hall
 refine gBind (Ways_ok hg hs ht) fun y3 h3 => ?_
 refine gIte (fun q => absurd h1.1 q) fun _ => ?_
 simp only [ne_eq, not_true_eq_false, not_false_eq_true, if_true, false_or]
 refine gBindE (a := ((cnt N C : Nat) : Int)) (by rw [rotaref_Size_nat, size_of_lt hC h8]) ?_
 simp only [hnC, not_true_eq_false, not_false_eq_true, if_true, false_or]
 obtain ⟨W, w1, w2, w3⟩ := hS
 refine gBind (Paths_spec hg hs C W w1 w2) ?_
 rintro _ ⟨R, rfl, hR⟩
 have hRt : iand (R : Int) (t : Int) = 0 := by
  rw [and_nat, and_zero.2 fun i hi => w3 i (hR i hi)]; rfl
 simp only [hRt, not_true_eq_false, not_false_eq_true, if_true, false_or]
 refine gBindE (a := ((cnt N s : Nat) : Int)) (by rw [rotaref_Size_nat, size_of_lt hs h8]) ?_
 have hiff : y3.2 = 0 ↔ ((cnt N C : Nat) : Int) = ((cnt N s : Nat) : Int) := by
  have hsC : cnt N C ≤ cnt N s := hall s hs ⟨0, fun i hi => by
   rw [testBit_dif] at hi
   cases q : s.testBit i <;> rw [q] at hi <;> simp at hi, fun a b ha => by simp at ha, fun i hi => by simp at hi⟩
  rcases h3 with ⟨z, ps, p1, p2⟩ | ⟨z, p1, p2⟩
  ·refine ⟨fun _ => ?_, fun _ => z⟩
   have := sys_cut hg hs p1 hAs hC ⟨W, w1, w2, w3⟩
   rw [srcs_len] at this
   omega
  ·refine ⟨fun q => by omega, fun q => ?_⟩
   have hm := (ways_eq (s := s) h1.2.1).1 (by rw [hnC, q])
   have hnd : (srcs N s 0).Nodup := by rw [srcs_zero]; exact List.nodup_range.filter _
   obtain ⟨ps, hps⟩ := menger hg hs hm hnd fun x hx => srcs_mem hx
   exact absurd hps (p2 ps)
 refine gIte (fun q => absurd hiff q) fun _ => ?_
 refine gBindE (rotaref_Elements_nat s) ?_
 rw [els_srcs h8 hs]
 rcases h3 with ⟨z, ps, p1, p2⟩ | ⟨z, p1, p2⟩
 ·rw [p2]
  refine gBind (R := fun z => z = .inl ()) (gFor ps.length (fun k (x : Int × Int) => x.2 = (k : Int) ∧ ∃ gk : Nat, x.1 = (gk : Int) ∧ gk < 2 ^ N ∧ Sys N E t ((srcs N s 0).drop k) gk (ps.drop k)) (Nat.zero_le _) ⟨rfl, 0, rfl, Nat.pow_pos (by omega), p1⟩ ?_) ?_
  ·rintro k ⟨_, _⟩ hk ⟨rfl, gk, rfl, hgk, hSy⟩
   simp only [List.length_map, toNat_nat, getD_mapcs, cs_get (srcs N s 0)]
   refine gIte (fun c => ?_) fun c => gSome rfl
   have hkp : k < ps.length := by omega
   rw [drop_getD (d := []) hkp] at hSy
   have hkA : k < (srcs N s 0).length := by
    rcases Nat.lt_or_ge k (srcs N s 0).length with q | q
    ·exact q
    ·rw [List.drop_of_length_le q] at hSy; exact hSy.elim
   rw [drop_getD (d := 0) hkA] at hSy
   obtain ⟨m1, r, m2, m3, m4⟩ := hSy
   have hA := srcs_mem (getD_mem hkA)
   have hAl : (cs (srcs N s 0)).length = (srcs N s 0).length := cs_len _
   simp only [m2]
   generalize (srcs N s 0).getD k 0 = x at *
   have hrl := m3.len
   obtain ⟨l, hl⟩ : ∃ l, l = cs (x :: r) := ⟨_, rfl⟩
   simp only [← hl]
   have hll : l.length = r.length + 1 := by rw [hl]; simp
   have hl0 : l.getD 0 0 = (x : Int) := by rw [hl]; rfl
   have hlast : l.getD ((l.length : Int) - 1).toNat 0 = (((x :: r).getD r.length 0 : Nat) : Int) := by
    rw [hll, show (((r.length + 1 : Nat) : Int) - 1).toNat = r.length by omega, hl, cs_get]
   refine gChk (by omega) (gChk ⟨fun _ => by omega, fun _ => by omega, fun _ => by omega, fun _ => by omega⟩ ?_)
   have hok : ¬ ((l.length : Int) = 0 ∨ l.getD 0 0 ≠ (x : Int)) := by
    rintro (q | q)
    ·omega
    ·exact q hl0
   refine gBindE (a := true) ?_ ?_
   ·rw [if_pos hok, hlast, rotaref_In_nat, m3.last]
   ·refine gIte (fun q => ?_) fun _ => ?_
    ·rcases q with q | q
     ·exact absurd q hok
     ·exact absurd rfl q
    ·refine gBind (R := fun z => z = .inl ((addl (gk ||| 2 ^ x) r : Nat) : Int)) (check_way hg hgk hA.1 m1 m3 l hl) ?_
     rintro _ rfl
     exact gSome ⟨hkp, by simp, _, rfl, addl_lt (or_lt hgk (Nat.pow_lt_pow_right (by omega) hA.1)) m3.lt, m4⟩
  ·rintro _ rfl
   exact gSome rfl
 ·rw [p1]
  refine gBind (R := fun z => z = .inl ()) (gFor 0 (fun k (x : Int × Int) => x.2 = 0) (Nat.zero_le _) rfl ?_) ?_
  ·rintro k ⟨_, _⟩ hk rfl
   exact gIte (fun q => absurd q (by simp)) fun _ => gSome rfl
  ·rintro _ rfl
   exact gSome rfl
end
end Go.SH
