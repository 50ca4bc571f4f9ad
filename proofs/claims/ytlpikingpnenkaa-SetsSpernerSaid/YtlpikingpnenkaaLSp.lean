/-
 SetsSperner: least sets (and greatest ones), each over all of its size, come to one at most. Conditions: none.
-/
import Derived.Test.YtlpikingpnenkaaLSq
import Derived.Test.YtlpikingpnenkaaLYm
import Derived.Test.YtlpikingpnenkaaSkSetsSperner
set_option linter.unusedSimpArgs false
set_option linter.unusedVariables false
namespace Go.SH
open Go Go.AX
theorem cmp_nb {a b : Nat} (ha : a < 4294967296) (hb : b < 4294967296) : rotabig_Int_Cmp false (wdn a) false (wdn b) = some (if (a : Int) < b then -1 else if (a : Int) = b then 0 else 1) := by
 obtain ⟨a1, a2, a3⟩ := wdn_ok ha
 obtain ⟨b1, b2, b3⟩ := wdn_ok hb
 have l1 := wdn_len a
 obtain ⟨r, hr, hv⟩ := cmp_spec a1 b1 a2 b2 (by omega)
 rw [a3, b3] at hv
 unfold rotabig_Int_Cmp
 rw [if_neg (by simp), hr, Option.bind_some, if_neg (by simp), hv]
theorem CmpR_spec {p q : Nat} (q0 : 0 < q) (hq : q < 4294967296) (hpq : p ≤ q) : Gets (rotabig_Rat_Cmp (nb p, nb q) (nb 1, nb 1)) (fun r => r.1 ≤ 0) := by
 unfold rotabig_Rat_Cmp
 rw [if_neg (by show ¬ wdn q = []; rw [wdn_pos q0]; simp)]
 unfold rotabig_Rat_Cmp_B
 refine gBindE (denB_spec q0 _) ?_
 refine gBindE (denB_spec (q := 1) (by omega) _) ?_
 refine gBindE (cmp_nb hq (b := 1) (by omega)) ?_
 refine gIte (fun c => ?_) fun c => ?_
 ·refine gBindE (cmp_nb (a := p) (b := 1) (by omega) (by omega)) (gSome ?_)
  have : q = 1 := by
   rcases Nat.lt_or_ge 1 q with w | w
   ·rw [if_neg (by omega), if_neg (by omega)] at c; omega
   ·omega
  simp only
  split <;> (try split) <;> omega
 ·refine gBindE (denB_spec (q := 1) (by omega) _) ?_
  refine gBindE (Mul_nb (a := p) (b := 1) (by omega) (by omega) (by omega) _) ?_
  refine gBindE (denB_spec q0 _) ?_
  refine gBindE (Mul_nb (a := 1) (b := q) (by omega) (by omega) (by omega) _) ?_
  refine gBindE (cmp_nb (a := p * 1) (b := 1 * q) (by omega) (by omega)) (gSome ?_)
  simp only
  split <;> (try split) <;> omega
theorem CmpZ_spec : Gets (rotabig_Rat_Cmp ((false, []), (false, [])) (nb 1, nb 1)) (fun r => r.1 ≤ 0) := by
 unfold rotabig_Rat_Cmp
 rw [if_pos rfl]
 unfold rotabig_Rat_Cmp_A
 refine gBindE denA_spec ?_
 refine gBindE (denB_spec (q := 1) (by omega) _) ?_
 refine gBindE (cmp_nb (a := 1) (b := 1) (by omega) (by omega)) ?_
 refine gIte (fun c => ?_) fun c => absurd (by simp) c
 refine gBindE (cmp_nb (a := 0) (b := 1) (by omega) (by omega)) (gSome ?_)
 simp
/-- The fraction S / 840. -/
def Fr (x : (Bool × List Int) × (Bool × List Int)) (S : Nat) : Prop :=
 (S = 0 ∧ x = ((false, []), (false, []))) ∨ ∃ p q, 0 < p ∧ 0 < q ∧ x = (nb p, nb q) ∧ p * 840 = q * S ∧ q ∣ 840
theorem Fr.add {x : (Bool × List Int) × (Bool × List Int)} {S c : Nat} (h : Fr x S) (c0 : 0 < c) (hc : c ∣ 840) (hS : S ≤ 840) :
  Gets (rotabig_Rat_Add x (nb 1, nb c)) (fun r => Fr r.1 (S + 840 / c)) := by
 have hc8 : c ≤ 840 := Nat.le_of_dvd (by omega) hc
 have ec : c * (840 / c) = 840 := Nat.mul_div_cancel' hc
 rcases h with ⟨rfl, rfl⟩ | ⟨p, q, p0, q0, rfl, e, hq⟩
 ·refine (AddZ_spec c0 (by omega)).mono fun r hr => .inr ⟨1, c, by omega, c0, hr, ?_, hc⟩
  rw [Nat.zero_add, ec]
 ·have hq8 : q ≤ 840 := Nat.le_of_dvd (by omega) hq
  have hp8 : p ≤ 840 := by
   have : q * S ≤ 840 * 840 := Nat.mul_le_mul hq8 hS
   omega
  have b1 : p * c ≤ 840 * 840 := Nat.mul_le_mul hp8 hc8
  have b2 : q * c ≤ 840 * 840 := Nat.mul_le_mul hq8 hc8
  refine (AddR_spec p0 q0 c0 (by omega) (by omega)).mono fun r hr => ?_
  have n0 : 0 < p * c + q := by omega
  have d0 : 0 < q * c := Nat.mul_pos q0 c0
  have e2 : (p * c + q) * 840 = q * c * (S + 840 / c) := by
   rw [Nat.mul_add, Nat.mul_assoc q c (840 / c), ec, Nat.add_mul, Nat.mul_right_comm, e]
   congr 1
   rw [Nat.mul_right_comm]
  generalize p * c + q = P at hr n0 e2
  generalize q * c = Q at hr d0 e2
  have g0 : 0 < Nat.gcd P Q := Nat.gcd_pos_of_pos_left _ n0
  have eP : Nat.gcd P Q * (P / Nat.gcd P Q) = P := Nat.mul_div_cancel' (Nat.gcd_dvd_left P Q)
  have eQ : Nat.gcd P Q * (Q / Nat.gcd P Q) = Q := Nat.mul_div_cancel' (Nat.gcd_dvd_right P Q)
  have e3 : P / Nat.gcd P Q * 840 = Q / Nat.gcd P Q * (S + 840 / c) := by
   refine Nat.eq_of_mul_eq_mul_left g0 ?_
   rw [← Nat.mul_assoc, ← Nat.mul_assoc, eP, eQ, e2]
  refine .inr ⟨_, _, Nat.div_pos (Nat.gcd_le_left _ n0) g0, Nat.div_pos (Nat.gcd_le_right _ d0) g0, hr, e3, ?_⟩
  have cop : Nat.Coprime (Q / Nat.gcd P Q) (P / Nat.gcd P Q) := (Nat.coprime_div_gcd_div_gcd g0).symm
  exact cop.dvd_of_dvd_mul_left ⟨_, e3⟩
theorem Fr.cmp {x : (Bool × List Int) × (Bool × List Int)} {S : Nat} (h : Fr x S) (hS : S ≤ 840) : Gets (rotabig_Rat_Cmp x (nb 1, nb 1)) (fun r => r.1 ≤ 0) := by
 rcases h with ⟨_, rfl⟩ | ⟨p, q, p0, q0, rfl, e, hq⟩
 ·exact CmpZ_spec
 ·have hq8 : q ≤ 840 := Nat.le_of_dvd (by omega) hq
  refine CmpR_spec q0 (by omega) ?_
  have : q * S ≤ q * 840 := Nat.mul_le_mul_left q hS
  omega
theorem ch_dvd : ∀ n : Fin 9, ∀ k : Fin 9, k.val ≤ n.val → 0 < ch n.val k.val ∧ 840 % ch n.val k.val = 0 ∧ ch n.val k.val ≤ 70 ∧ fc n.val * ((840 / ch n.val k.val : Nat) : Int) = 840 * (fc k.val * fc (n.val - k.val)) := by decide +kernel
/-- The weights of sets: 840 over the number of all sets of a set's size. -/
def wt (n : Nat) : List Nat → Nat
 | [] => 0
 | s :: r => wt n r + 840 / ch n (cnt n s)
theorem wt_app (n : Nat) (a : List Nat) (s : Nat) : wt n (a ++ [s]) = wt n a + 840 / ch n (cnt n s) := by
 induction a with
 | nil => rfl
 | cons x r ih => simp only [List.cons_append, wt, ih]; omega
open Classical in
theorem wt_sy {n : Nat} (hn : n ≤ 8) : ∀ (L : List Nat), L.Nodup → (∀ s, s ∈ L → s < 2 ^ n) → fc n * (wt n L : Int) = 840 * sy (2 ^ n) (fun a => if a ∈ L then fc (cnt n a) * fc (n - cnt n a) else 0)
 | [], _, _ => by simp [wt, sy_zero]
 | s :: r, hd, hl => by
  have hd' := List.nodup_cons.1 hd
  have ih := wt_sy hn r hd'.2 fun t ht => hl t (List.mem_cons_of_mem _ ht)
  have hs := hl s List.mem_cons_self
  have hc := cnt_le n s
  obtain ⟨_, _, _, e⟩ := ch_dvd ⟨n, by omega⟩ ⟨cnt n s, by omega⟩ hc
  simp only at e
  have hsplit : (sy (2 ^ n) fun a => if a ∈ s :: r then fc (cnt n a) * fc (n - cnt n a) else 0) = (sy (2 ^ n) fun a => if a ∈ r then fc (cnt n a) * fc (n - cnt n a) else 0) + fc (cnt n s) * fc (n - cnt n s) := by
   rw [← sy_single hs (fc (cnt n s) * fc (n - cnt n s)), ← sy_add]
   refine sy_congr fun a ha => ?_
   by_cases q : a = s
   ·subst q
    rw [if_pos List.mem_cons_self, if_neg hd'.1, if_pos rfl]; omega
   ·rw [if_neg q, Int.add_zero]
    by_cases w : a ∈ r
    ·rw [if_pos w, if_pos (List.mem_cons_of_mem _ w)]
    ·rw [if_neg w, if_neg fun z => (List.mem_cons.1 z).elim q w]
  rw [hsplit, Int.mul_add, ← ih, ← e]
  show fc n * ((wt n r + 840 / ch n (cnt n s) : Nat) : Int) = _
  rw [Int.natCast_add, Int.mul_add]
theorem wt_le {n : Nat} (hn : n ≤ 8) {L : List Nat} (hd : L.Nodup) (hl : ∀ s, s ∈ L → s < 2 ^ n) (hA : ∀ a b, a ∈ L → b ∈ L → Inc a b → a = b) : wt n L ≤ 840 := by
 have h1 := wt_sy hn L hd hl
 have h2 : (sy (2 ^ n) fun a => if a ∈ L then fc (cnt n a) * fc (n - cnt n a) else 0) ≤ fc n := by
  refine Int.le_trans (Int.le_of_eq (sy_congr fun a _ => ?_)) (lym (n := n) (A := fun a => a ∈ L) hA)
  by_cases q : a ∈ L
  ·rw [if_pos q, if_pos q]
  ·rw [if_neg q, if_neg q]
 have h3 := fc_pos n
 have h4 : fc n * (wt n L : Int) ≤ fc n * 840 := by rw [h1, Int.mul_comm (fc n)]; exact Int.mul_le_mul_of_nonneg_left h2 (by omega)
 have := Int.le_of_mul_le_mul_left h4 h3
 omega
theorem sum_loop {n : Nat} {L : List Nat} (hn : n ≤ 8) (hlen : L.length ≤ 256) (hd : L.Nodup) (hl : ∀ s, s ∈ L → s < 2 ^ n) (hA : ∀ a b, a ∈ L → b ∈ L → Inc a b → a = b) :
  Gets (loopM (ρ := Bool × List Int × Bool × List Int) (fun ((v, v1, v2, v3, v4) : Bool × List Int × Bool × List Int × Int) =>
 if v4 < ((cs L).length : Int) then
 chk ((0 ≤ v4 ∧ v4 < (cs L).length)) <|
 (rotaref_Size ((cs L).getD v4.toNat 0)).bind fun y3 =>
 (rotakeep_over (n : Int) y3).bind fun y4 =>
 (rotabig_NewRat 1 y4).bind fun y5 =>
 (rotabig_Rat_Add ((v, v1), (v2, v3)) ((y5.1.1, y5.1.2), (y5.2.1, y5.2.2))).bind fun y6 =>
 chk ((-9223372036854775808 ≤ (v4 + 1 : Int) ∧ (v4 + 1 : Int) ≤ 9223372036854775807)) <|
 some (.inl (y6.1.1.1, y6.1.1.2, y6.1.2.1, y6.1.2.2, v4 + 1))
 else
 some (.inr (v, v1, v2, v3))) (false, [], false, [], 0)) (fun r => Fr ((r.1, r.2.1), (r.2.2.1, r.2.2.2)) (wt n L)) := by
 refine gFor L.length (fun k (x : Bool × List Int × Bool × List Int × Int) => x.2.2.2.2 = (k : Int) ∧ Fr ((x.1, x.2.1), (x.2.2.1, x.2.2.2.1)) (wt n (L.take k))) (Nat.zero_le _) ⟨rfl, .inl ⟨rfl, rfl⟩⟩ ?_
 rintro k ⟨v, v1, v2, v3, _⟩ hk ⟨rfl, hF⟩
 simp only [cs_len, cs_get, toNat_nat] at hF ⊢
 refine gIte (fun h1 => gChk (by omega) ?_) fun h1 => gSome (by rw [List.take_of_length_le (by omega)] at hF; exact hF)
 have hk' : k < L.length := by omega
 have hm : L.getD k 0 ∈ L := mem_getD.2 ⟨k, hk', rfl⟩
 have hlt := hl _ hm
 have hc := cnt_le n (L.getD k 0)
 obtain ⟨c0, c1, c2, _⟩ := ch_dvd ⟨n, by omega⟩ ⟨cnt n (L.getD k 0), by omega⟩ hc
 simp only at c0 c1 c2
 have etake : L.take (k + 1) = L.take k ++ [L.getD k 0] := by
  rw [List.take_add_one, List.getD_eq_getElem?_getD, List.getElem?_eq_getElem hk']; rfl
 have hle : wt n (L.take k) ≤ 840 := wt_le hn (hd.sublist (List.take_sublist k L)) (fun s hs => hl s (List.mem_of_mem_take hs)) fun a b ha hb => hA a b (List.mem_of_mem_take ha) (List.mem_of_mem_take hb)
 rw [rotaref_Size_nat, size_of_lt hlt hn, Option.bind_some, over_spec hn hc, Option.bind_some, NewRat_spec c0 (by omega), Option.bind_some]
 refine gBind (hF.add c0 (Nat.dvd_of_mod_eq_zero c1) hle) fun y6 hy => gChk (by omega) (gSome ⟨hk', by simp, ?_⟩)
 rw [etake, wt_app]
 exact hy
theorem fam123 : Fam 2 [1, 2, 3] := by
 refine ⟨by omega, by decide, ?_⟩
 intro i j hij hj
 have : j < 3 := hj
 have : (i = 0 ∧ j = 1) ∨ (i = 0 ∧ j = 2) ∨ (i = 1 ∧ j = 2) := by omega
 rcases this with ⟨rfl, rfl⟩ | ⟨rfl, rfl⟩ | ⟨rfl, rfl⟩ <;> decide
theorem rotakeep_SetsSperner_law (n : Int) (l : List Int) (hl : l.length ≤ 9223372036854775807) : rotakeep_SetsSperner n l = some true := by
 refine Gets.eq ?_
 unfold rotakeep_SetsSperner
 have h0 : sets_Most 2 [1, 2, 3] = some ([3], 0) := by
  have := Most_ok fam123
  rw [show cs [1, 2, 3] = [1, 2, 3] from rfl] at this
  rw [show sets_Most 2 [1, 2, 3] = sets_Most ((2 : Nat) : Int) [1, 2, 3] from rfl, this, show mostL [1, 2, 3] = [3] from ?_]
  ·rfl
  ·decide +kernel
 refine gBindE h0 (gIte (fun _ => ?_) fun c => absurd (by simp) c)
 refine gBindE (Same_spec _ _) (gIte (fun c => absurd (by simp) c) fun _ => ?_)
 obtain ⟨f, hf, hfam⟩ := sets_Family_spec n l hl
 rcases hfam with ⟨rfl, m, L, rfl, rfl, hL⟩ | ⟨rfl, _⟩
 ·have n1 : (lstL L).Nodup := hL.nodup.sublist List.filter_sublist
  have n2 : (mostL L).Nodup := hL.nodup.sublist List.filter_sublist
  have l1 : (lstL L).length ≤ 256 := Nat.le_trans (List.length_filter_le ..) hL.len
  have l2 : (mostL L).length ≤ 256 := Nat.le_trans (List.length_filter_le ..) hL.len
  have b1 : ∀ s, s ∈ lstL L → s < 2 ^ m := fun s hs => hL.lt s (mem_lstL.1 hs).1
  have b2 : ∀ s, s ∈ mostL L → s < 2 ^ m := fun s hs => hL.lt s (mem_mostL.1 hs).1
  have a1 : ∀ a b, a ∈ lstL L → b ∈ lstL L → Inc a b → a = b := fun a b ha hb hi => (mem_lstL.1 hb).2 a (mem_lstL.1 ha).1 hi
  have a2 : ∀ a b, a ∈ mostL L → b ∈ mostL L → Inc a b → a = b := fun a b ha hb hi => ((mem_mostL.1 ha).2 b (mem_mostL.1 hb).1 hi).symm
  refine gBindE (LeastB hL) (gIte (fun c => absurd rfl c) fun _ => ?_)
  refine gBind (sum_loop hL.m8 l1 n1 b1 a1) fun ⟨v5, v6, v7, v8⟩ hF => ?_
  refine gBindE (NewRat_spec (c := 1) (by omega) (by omega)) ?_
  refine gBind (Fr.cmp hF (wt_le hL.m8 n1 b1 a1)) fun y8 h8 => gIte (fun c => absurd h8 (by omega)) fun _ => ?_
  refine gBindE (Most_ok hL) (gIte (fun c => absurd rfl c) fun _ => ?_)
  refine gBind (sum_loop hL.m8 l2 n2 b2 a2) fun ⟨v5, v6, v7, v8⟩ hF => ?_
  refine gBindE (NewRat_spec (c := 1) (by omega) (by omega)) ?_
  exact gBind (Fr.cmp hF (wt_le hL.m8 n2 b2 a2)) fun y8 h8 => gIte (fun c => absurd h8 (by omega)) fun _ => gSome rfl
 ·refine gBindE (a := ([], 1)) (by unfold sets_Least; rw [hf]; rfl) (gIte (fun _ => gSome rfl) fun c => absurd (by simp) c)
end Go.SH
