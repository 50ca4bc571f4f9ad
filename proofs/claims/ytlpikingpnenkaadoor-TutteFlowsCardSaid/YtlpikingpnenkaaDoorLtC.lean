/-
 The law TutteFlows: the flow polynomial's value is the number of the flows that are nowhere zero; the digits of a number. Conditions: none.
-/
import Derived.Test.YtlpikingpnenkaaDoorLtB
import Derived.Test.YtlpikingpnenkaaDoorSkTutteFlows
set_option linter.unusedSimpArgs false
set_option linter.unusedVariables false
namespace Go.SH
open Go Go.AX
theorem pval_drop (c : List Int) (q : Int) {k : Nat} (hk : k < c.length) : pval (c.drop k) q = c.getD k 0 + q * pval (c.drop (k + 1)) q := by
 rw [List.drop_eq_getElem_cons hk, pval, List.getD_eq_getElem?_getD, List.getElem?_eq_getElem hk]; rfl
theorem val_bd {x q v : Int} {m : Nat} (hx : (x.natAbs : Int) < 18446744073709551616) (hq : (q.natAbs : Int) < 18446744073709551616) (hv : (v.natAbs : Int) < wB m) : ((v * q).natAbs : Int) < wB (m + 2) ∧ ((x + q * v).natAbs : Int) < wB (m + 4) := by
 have e2 : wB (m + 2) = 18446744073709551616 * wB m := by rw [wBs, wBs]; omega
 have e4 : wB (m + 4) = 18446744073709551616 * wB (m + 2) := by rw [wBs, wBs]; omega
 have hp := wB_pos m
 have h1 : ((v * q).natAbs : Int) = (q.natAbs : Int) * (v.natAbs : Int) := by rw [Int.natAbs_mul, Nat.mul_comm]; simp
 have h2 : (q.natAbs : Int) * (v.natAbs : Int) ≤ 18446744073709551615 * (v.natAbs : Int) := Int.mul_le_mul_of_nonneg_right (by omega) (by omega)
 have h3 : ((q * v).natAbs : Int) = (q.natAbs : Int) * (v.natAbs : Int) := by rw [Int.natAbs_mul]; simp
 refine ⟨by omega, ?_⟩
 omega
theorem value_spec {c : List Int} {q : Int} (hc : ∀ i, i < c.length → -9223372036854775808 ≤ c.getD i 0 ∧ c.getD i 0 < 9223372036854775808) (hq : -9223372036854775808 ≤ q ∧ q < 9223372036854775808) (hl : c.length ≤ 1000) :
  Gets (rotakeep_value c q) (fun r => Bg r (pval c q)) := by
 unfold rotakeep_value
 refine gChk (by omega) ?_
 refine gBind (R := fun z : Bool × List Int => Bg z (pval c q)) (gLoop (fun s : Bool × List Int × Int => ∃ k : Nat, s.2.2 = (k : Int) - 1 ∧ k ≤ c.length ∧ Bg (s.1, s.2.1) (pval (c.drop k) q) ∧ ((pval (c.drop k) q).natAbs : Int) < wB (4 * (c.length - k) + 1)) (fun s => (s.2.2 + 1).toNat) ⟨c.length, rfl, Nat.le_refl _, ?_, ?_⟩ ?_) fun z hz => gSome hz
 ·rw [List.drop_length]; exact Bg.nil
 ·rw [List.drop_length]; exact wB_pos _
 ·rintro ⟨a, b, i⟩ ⟨k, hi, hk, hb, hw⟩
  dsimp only at hi hb hw ⊢
  subst hi
  refine gIte (fun h => ?_) fun h => gSome ?_
  ·have hkc : k - 1 < c.length := by omega
   have e1 : ((k : Int) - 1).toNat = k - 1 := by omega
   have hx := hc (k - 1) hkc
   have pd := pval_drop c q hkc
   rw [show k - 1 + 1 = k by omega] at pd
   have bd := val_bd (x := c.getD (k - 1) 0) (q := q) (v := pval (c.drop k) q) (by omega) (by omega) hw
   have hln := hb.len hw
   have hq2 : (q.natAbs : Int) < wB 2 := by show _ < (4294967296 : Int) ^ 2; omega
   refine gBind (newInt_spec hq.1 hq.2) fun y hy => ?_
   refine gBind (mulI_spec (x := (a, b)) (y := (y.1, y.2)) hb hy (by show b.length < _; dsimp only at hln; omega) (by have := hy.len hq2; show y.2.length < _; omega)) fun y1 hy1 => ?_
   refine gChk (by omega) ?_
   rw [e1]
   refine gBind (newInt_spec hx.1 hx.2) fun y2 hy2 => ?_
   have hx2 : ((c.getD (k - 1) 0).natAbs : Int) < wB 2 := by show _ < (4294967296 : Int) ^ 2; omega
   have l1 := hy1.len bd.1
   have l2 := hy2.len hx2
   refine gBind (addI_spec (x := (y1.1.1, y1.1.2)) (y := (y2.1, y2.2)) hy1 hy2 (by show y1.1.2.length < _; omega) (by show y2.2.length < _; omega)) fun y3 hy3 => ?_
   have e2 : pval (c.drop k) q * q + c.getD (k - 1) 0 = pval (c.drop (k - 1)) q := by rw [pd, Int.mul_comm]; omega
   rw [e2] at hy3
   refine gChk (by omega) (gSome ⟨⟨k - 1, by show (k : Int) - 1 - 1 = _; omega, by omega, hy3, ?_⟩, ?_⟩)
   ·rw [pd, show 4 * (c.length - (k - 1)) + 1 = 4 * (c.length - k) + 1 + 4 by omega]
    exact bd.2
   ·show ((k : Int) - 1 - 1 + 1).toNat < ((k : Int) - 1 + 1).toNat; omega
  ·have : k = 0 := by omega
   subst this
   exact hb
theorem one_word {l : List Int} {n : Int} (h : Bwd l n) (h1 : n < 4294967296) : l = if n = 0 then [] else [n] := by
 obtain ⟨h2, h3, h4⟩ := h
 have hz := wv_zero h2 h3
 split
 ·exact hz.1 (by omega)
 ·have hl := wv_lenB (n := 1) h2 h3 (by rw [h4]; show n < (4294967296 : Int) ^ 1; omega)
  match l, hl, h4, hz with
  | [], _, h4, _ => simp [wv] at h4; omega
  | [x], _, h4, _ => simp [wv] at h4; rw [h4]
theorem small_ten {x : Int} (h0 : 0 ≤ x) (h1 : x < 4294967296) : rotabig_small [x] (IntKind.wrap .u32 10) = some (if x / 10 = 0 then [] else [x / 10], x % 10) := by
 have e10 : IntKind.wrap .u32 10 = 10 := by simp [IntKind.wrap, IntKind.bits, IntKind.signed]
 obtain ⟨n, rfl⟩ := Int.eq_ofNat_of_zero_le h0
 have eo : ior (0 * (2 ^ 32 : Int)) (n : Int) = (n : Int) := by
  have := ior_nn 0 n
  rw [Nat.zero_or] at this
  rw [Int.zero_mul]; exact this
 have ed : Int.tdiv (n : Int) 10 = (n : Int) / 10 := Int.tdiv_eq_ediv_of_nonneg (by omega)
 have em : Int.tmod (n : Int) 10 = (n : Int) % 10 := Int.tmod_eq_emod_of_nonneg (by omega)
 rw [e10]
 unfold rotabig_small
 have G : Gets (rotabig_trim [(n : Int) / 10]) (fun b => Bwd b (wv [(n : Int) / 10]) ∧ b.length ≤ [(n : Int) / 10].length) := trim_spec (wok_cons.2 ⟨by omega, wok_nil⟩) (by simp)
 obtain ⟨b, hb, hb2, _⟩ := G
 have eb := one_word hb2 (by simp [wv]; omega)
 have ew : wv [(n : Int) / 10] = (n : Int) / 10 := by simp [wv]
 rw [ew] at eb
 have sh : shlOk .u64 0 32 = true := by decide
 rw [chk_pos (by simp), chk_pos (by simp)]
 have hloop : ∀ (F : List Int × Int × Int → Option ((List Int × Int × Int) ⊕ (List Int × Int))), F ([0], 0, 0) = some (.inl ([(n : Int) / 10], (n : Int) % 10, -1)) → F ([(n : Int) / 10], (n : Int) % 10, -1) = some (.inr ([(n : Int) / 10], (n : Int) % 10)) → loopM F ([0], 0, 0) = some ([(n : Int) / 10], (n : Int) % 10) := fun F h1 h2 => by rw [loopM_inl h1, loopM_inr h2]
 have w1 : IntKind.wrap .u32 ((n : Int) / 10) = (n : Int) / 10 := by rw [wrap32]; omega
 have w2 : IntKind.wrap .u32 ((n : Int) % 10) = (n : Int) % 10 := by rw [wrap32]; omega
 show Option.bind (loopM _ ([0], 0, 0)) _ = _
 rw [hloop _ ?_ ?_]
 ·show Option.bind (rotabig_trim [(n : Int) / 10]) _ = _
  rw [hb, w2, ← eb]; rfl
 ·dsimp only
  rw [if_pos (by omega), chk_pos ⟨sh, by simp, by simp; omega⟩]
  have g0 : [(n : Int)].getD (0 : Int).toNat 0 = (n : Int) := rfl
  rw [g0, eo, ed, em, chk_pos (by omega), chk_pos (by simp), chk_pos (by omega), chk_pos (by omega), w1]
  rfl
 ·dsimp only
  rw [if_neg (by omega)]
/-- The digits, the last first. -/
def dgs (V : Nat) : List Int := if h : V = 0 then [] else (48 + ((V % 10 : Nat) : Int)) :: dgs (V / 10)
termination_by V
decreasing_by omega
theorem dgs_zero : dgs 0 = [] := by rw [dgs]; rfl
theorem dgs_pos {V : Nat} (h : V ≠ 0) : dgs V = (48 + ((V % 10 : Nat) : Int)) :: dgs (V / 10) := by rw [dgs, dif_neg h]
def wd (V : Nat) : List Int := if (V : Int) = 0 then [] else [(V : Int)]
theorem digits_loop (V : Nat) : ∀ (v : List Int), V < 4294967296 → v.length + V ≤ 8589934592 → loopM (ρ := List Int) (fun ((v, v1) : List Int × List Int) =>
 if 0 < (v1.length : Int) then
 (rotabig_small v1 (IntKind.wrap .u32 10)).bind fun y1 =>
 if y1.2 < 10 then
 chk ((0 ≤ (48 + y1.2 : Int) ∧ (48 + y1.2 : Int) ≤ 4294967295)) <|
 chk (((v ++ [IntKind.wrap .u8 (48 + y1.2)]).length ≤ 8796093022208)) <|
 some (.inl (v ++ [IntKind.wrap .u8 (48 + y1.2)], y1.1))
 else
 chk ((0 ≤ (97 + y1.2 : Int) ∧ (97 + y1.2 : Int) ≤ 4294967295)) <|
 chk (((v ++ [IntKind.wrap .u8 (IntKind.wrap .u32 ((97 + y1.2) - 10))]).length ≤ 8796093022208)) <|
 some (.inl (v ++ [IntKind.wrap .u8 (IntKind.wrap .u32 ((97 + y1.2) - 10))], y1.1))
 else
 some (.inr v)) (v, wd V) = some (v ++ dgs V) := by
 induction V using Nat.strongRecOn with
 | ind V ih =>
  intro v hV hl
  by_cases h : V = 0
  ·subst h
   rw [dgs_zero, List.append_nil]
   refine loopM_inr ?_
   rfl
  ·have hw : wd V = [(V : Int)] := if_neg (by omega)
   have hsm := small_ten (x := (V : Int)) (by omega) (by omega)
   have hx : IntKind.wrap .u8 (48 + ((V : Int) % 10)) = 48 + ((V % 10 : Nat) : Int) := by
    simp [IntKind.wrap, IntKind.bits, IntKind.signed]; omega
   have e1 : v ++ dgs V = (v ++ [48 + ((V % 10 : Nat) : Int)]) ++ dgs (V / 10) := by rw [dgs_pos h]; simp
   rw [e1, ← ih (V / 10) (by omega) (v ++ [48 + ((V % 10 : Nat) : Int)]) (by omega) (by simp only [List.length_append, List.length_cons, List.length_nil]; omega)]
   refine loopM_inl ?_
   show (if 0 < ((wd V).length : Int) then _ else _) = _
   rw [hw, if_pos (by simp), hsm]
   show (if (V : Int) % 10 < 10 then _ else _) = _
   rw [if_pos (by omega)]
   show chk _ _ = _
   rw [chk_pos (by omega)]
   show chk ((v ++ [IntKind.wrap .u8 (48 + (V : Int) % 10)]).length ≤ 8796093022208) _ = _
   rw [chk_pos (by simp only [List.length_append, List.length_cons, List.length_nil]; omega)]
   show some (Sum.inl (v ++ [IntKind.wrap .u8 (48 + (V : Int) % 10)], if (V : Int) / 10 = 0 then [] else [(V : Int) / 10])) = _
   rw [hx]
   rfl
/-- Turning round. -/
noncomputable def swp (v3 : List Int) : Option (List Int) := (loopM (ρ := List Int) (fun ((v4, v5, v6) : List Int × Int × Int) =>
 if v5 < v6 then
 chk ((0 ≤ v5 ∧ v5 < v4.length)) <|
 chk ((0 ≤ v6 ∧ v6 < v4.length) ∧ (0 ≤ v5 ∧ v5 < v4.length)) <|
 chk ((0 ≤ v6 ∧ v6 < v4.length)) <|
 chk ((-9223372036854775808 ≤ (v6 - 1 : Int) ∧ (v6 - 1 : Int) ≤ 9223372036854775807)) <|
 some (.inl ((v4.set v5.toNat (v4.getD v6.toNat 0)).set v6.toNat (v4.getD v5.toNat 0), v5 + 1, v6 - 1))
 else
 some (.inr v4)) (v3, 0, (v3.length : Int) - 1))
theorem swp1 (a : Int) : swp [a] = some [a] := by
 unfold swp; exact loopM_inr rfl
theorem swp2 (a b : Int) : swp [a, b] = some [b, a] := by
 unfold swp; rw [loopM_inl (s' := ([b, a], 1, 0)) (by simp [chk])]; exact loopM_inr rfl
theorem swp3 (a b c : Int) : swp [a, b, c] = some [c, b, a] := by
 unfold swp; rw [loopM_inl (s' := ([c, b, a], 1, 1)) (by simp [chk])]; exact loopM_inr rfl
theorem dgt {d : Nat} (h : d < 10) : UInt8.ofNat (48 + (d : Int)).toNat = UInt8.ofNat (48 + d) := by
 rw [show (48 + (d : Int)).toNat = 48 + d by omega]
theorem dgs_ok {V : Nat} (h0 : V ≠ 0) (h1 : V < 1000) : ∃ l, swp (dgs V) = some l ∧ bstr l = Lib.decDigits V ∧ (dgs V).length ≤ 3 := by
 have dl : ∀ {d : Nat}, d < 10 → Lib.decDigits d = [UInt8.ofNat (48 + d)] := fun {d} h => by rw [Lib.decDigits, dif_pos h]
 have dm : ∀ {d : Nat}, 10 ≤ d → Lib.decDigits d = Lib.decDigits (d / 10) ++ [UInt8.ofNat (48 + d % 10)] := fun {d} h => by rw [Lib.decDigits, dif_neg (by omega)]
 by_cases c1 : V < 10
 ·refine ⟨[48 + ((V % 10 : Nat) : Int)], ?_, ?_, ?_⟩
  ·rw [dgs_pos h0, show V / 10 = 0 by omega, dgs_zero, swp1]
  ·rw [dl c1]; simp only [bstr, List.map_cons, List.map_nil]; rw [dgt (by omega), show V % 10 = V by omega]
  ·rw [dgs_pos h0, show V / 10 = 0 by omega, dgs_zero]; simp
 ·by_cases c2 : V < 100
  ·have h2 : V / 10 ≠ 0 := by omega
   refine ⟨[48 + ((V / 10 % 10 : Nat) : Int), 48 + ((V % 10 : Nat) : Int)], ?_, ?_, ?_⟩
   ·rw [dgs_pos h0, dgs_pos h2, show V / 10 / 10 = 0 by omega, dgs_zero, swp2]
   ·rw [dm (by omega), dl (by omega)]; simp only [bstr, List.map_cons, List.map_nil]; rw [dgt (by omega), dgt (by omega), show V / 10 % 10 = V / 10 by omega]; rfl
   ·rw [dgs_pos h0, dgs_pos h2, show V / 10 / 10 = 0 by omega, dgs_zero]; simp
  ·have h2 : V / 10 ≠ 0 := by omega
   have h3 : V / 10 / 10 ≠ 0 := by omega
   refine ⟨[48 + ((V / 10 / 10 % 10 : Nat) : Int), 48 + ((V / 10 % 10 : Nat) : Int), 48 + ((V % 10 : Nat) : Int)], ?_, ?_, ?_⟩
   ·rw [dgs_pos h0, dgs_pos h2, dgs_pos h3, show V / 10 / 10 / 10 = 0 by omega, dgs_zero, swp3]
   ·rw [dm (by omega), dm (by omega), dl (by omega)]; simp only [bstr, List.map_cons, List.map_nil]; rw [dgt (by omega), dgt (by omega), dgt (by omega), show V / 10 / 10 % 10 = V / 10 / 10 by omega]; rfl
   ·rw [dgs_pos h0, dgs_pos h2, dgs_pos h3, show V / 10 / 10 / 10 = 0 by omega, dgs_zero]; simp
theorem String_spec {x : Bool × List Int} {V : Nat} (hx : Bg x (V : Int)) (h1 : V < 1000) : rotabig_Int_String x.1 x.2 = some (Lib.itoa (V : Int)) := by
 have ei : Lib.itoa (V : Int) = Lib.decDigits V := by unfold Lib.itoa; rw [if_neg (by omega)]; rfl
 rw [ei]
 obtain ⟨h2, h3, h4, h5⟩ := hx
 have eb : x.1 = false := by
  cases e : x.1 with
  | false => rfl
  | true => have := h5.1 e; omega
 have ew := one_word (n := (V : Int)) ⟨h2, h3, by rw [h4]; rfl⟩ (by omega)
 unfold rotabig_Int_String rotabig_Int_Text
 by_cases h : V = 0
 ·subst h
  have e0 : x.2 = [] := by rw [ew]; rfl
  have ed : Lib.decDigits 0 = [48] := by rw [Lib.decDigits, dif_pos (by omega)]; rfl
  rw [e0, ed]
  rfl
 ·have ew2 : x.2 = wd V := ew
  rw [if_neg (by rw [ew, if_neg (by omega)]; simp)]
  have et : rotabig_twin x.2 = some (wd V) := by
   unfold rotabig_twin
   rw [ew2, chk_pos (by unfold wd; split <;> simp)]
  rw [et]
  simp only [Option.bind_some]
  rw [digits_loop V [] (by omega) (by simp; omega)]
  simp only [Option.bind_some, List.nil_append]
  obtain ⟨l, l1, l2, l3⟩ := dgs_ok h h1
  rw [eb]
  simp only [joinM]
  rw [if_neg (by simp), chk_pos (by omega)]
  show Option.bind (Option.bind (swp (dgs V)) _) _ = _
  rw [l1]
  simp only [Option.bind_some]
  rw [l2]
theorem Pick_spec (k : Int) (n : Nat) (hn : 0 < n) (h1 : -9223372036854775808 ≤ k) (h2 : k ≤ 9223372036854775807) : Gets (rotaref_Pick k n) (fun r => ∃ a : Nat, r = a ∧ a < n) := by
 have h := Int.emod_nonneg (-(k + 1)) (show (n : Int) ≠ 0 by omega)
 have h' := Int.emod_lt_of_pos (-(k + 1)) (show 0 < (n : Int) by omega)
 have g := Int.emod_nonneg k (show (n : Int) ≠ 0 by omega)
 have g' := Int.emod_lt_of_pos k (show 0 < (n : Int) by omega)
 unfold rotaref_Pick
 refine gIte (fun q => gChk (by omega) (gChk (by omega) (gSome ⟨((-(k + 1)) % (n : Int)).toNat, ?_, by omega⟩))) fun q => gChk (by omega) (gSome ⟨(k % (n : Int)).toNat, ?_, by omega⟩)
 ·rw [Int.tmod_eq_emod_of_nonneg (by omega)]; omega
 ·rw [Int.tmod_eq_emod_of_nonneg (by omega)]; omega
theorem pw_le {p b : Nat} (hp : p ≤ 2) (hb : b ≤ 8) : p ^ b ≤ 256 := by
 have h1 : p ^ b ≤ 2 ^ b := Nat.pow_le_pow_left hp b
 have h2 : 2 ^ b ≤ 2 ^ 8 := Nat.pow_le_pow_right (by omega) hb
 omega
theorem power_spec {p b : Nat} (hp : p ≤ 2) (hb : b ≤ 8) : rotakeep_power (p : Int) (b : Int) = some ((p ^ b : Nat) : Int) := by
  refine Gets.eq ?_
  unfold rotakeep_power
  refine gBind (gFor b (fun (k : Nat) (z : Int × Int) => z.2 = (k : Int) ∧ z.1 = ((p ^ k : Nat) : Int)) (Nat.zero_le _) ⟨rfl, by simp⟩ ?_) fun n hn => gSome hn
  rintro k ⟨n, v⟩ hk ⟨e1, e2⟩
  dsimp only at e1 e2 ⊢
  subst e1 e2
  have hpw := pw_le hp (show k ≤ 8 by omega)
  have e : ((p ^ k : Nat) : Int) * (p : Int) = ((p ^ (k + 1) : Nat) : Int) := by rw [Nat.pow_succ, Int.natCast_mul]
  refine gIte (fun q => ?_) fun q => gSome (by have : k = b := by omega
                                               subst this; rfl)
  have hpw2 := pw_le hp (show k + 1 ≤ 8 by omega)
  rw [e]
  exact gChk (by omega) (gSome ⟨by omega, by simp, rfl⟩)
theorem Contains_spec {l : List Int} {q : Nat} (hq : 0 < q) (hl : l.length ≤ 1000) : Gets (slices_ContainsFunc_int_int l (fun x0 => rotakeep_TutteFlows_1 x0 (q : Int))) (fun r => r = true ↔ ¬ ∀ x, x < l.length → (q : Int) ∣ l.getD x 0) := by
 unfold slices_ContainsFunc_int_int slices_IndexFunc_int_int
 refine gBind (R := fun r : Int => 0 ≤ r ↔ ¬ ∀ x, x < l.length → (q : Int) ∣ l.getD x 0) ?_ fun y hy => gSome (by rw [decide_eq_true_eq]; exact hy)
 refine gBind (R := fun z : Unit ⊕ Int => match z with | .inl _ => ∀ x, x < l.length → (q : Int) ∣ l.getD x 0 | .inr r => 0 ≤ r ∧ ¬ ∀ x, x < l.length → (q : Int) ∣ l.getD x 0)
  (gFor l.length (fun (k : Nat) (v : Int) => v = (k : Int) ∧ ∀ j, j < k → (q : Int) ∣ l.getD j 0) (Nat.zero_le _) ⟨rfl, fun j hj => absurd hj (Nat.not_lt_zero _)⟩ ?_) ?_
 ·rintro k _ hk ⟨rfl, hb⟩
  simp only [toNat_nat]
  refine gIte (fun h1 => gChk (by omega) ?_) fun h1 => gSome fun j hj => hb j (by omega)
  unfold rotakeep_TutteFlows_1
  rw [chk_pos (by omega)]
  simp only [Option.bind_some, decide_eq_true_eq]
  have iff : Int.tmod (l.getD k 0) (q : Int) ≠ 0 ↔ ¬ (q : Int) ∣ l.getD k 0 := by rw [ne_eq, Int.dvd_iff_tmod_eq_zero]
  refine gIte (fun h2 => gSome ⟨by omega, fun hh => iff.1 h2 (hh k (by omega))⟩) fun h2 => gSome ⟨by omega, by simp, fun j hj => ?_⟩
  rcases Nat.lt_or_ge j k with c | c
  ·exact hb j c
  ·have : j = k := by omega
   subst this
   exact Classical.not_not.1 fun r => h2 (iff.2 r)
 ·rintro (u | r) hz
  ·exact gSome ⟨fun h => by omega, fun h => absurd hz h⟩
  ·exact gSome ⟨fun _ => hz.2, fun _ => hz.1⟩
theorem Same_spec {a b : List Int} (h : a = b) (hl : a.length ≤ 1000) : rotalaw_Same_int64 a b = some true := by
 subst h
 refine Gets.eq ?_
 unfold rotalaw_Same_int64
 refine gIte (fun q => absurd rfl q) fun _ => ?_
 refine gBind (R := fun z : Unit ⊕ Bool => z = .inl ()) (gFor a.length (fun (k : Nat) (v : Int) => v = (k : Int)) (Nat.zero_le _) rfl ?_) ?_
 ·rintro k _ hk rfl
  refine gIte (fun h1 => gChk (by omega) (gIte (fun q => absurd rfl q) fun _ => gSome ⟨by omega, by simp⟩)) fun h1 => gSome rfl
 ·rintro _ rfl; exact gSome rfl
theorem ind_bd {n : Nat} {f : Nat → Int} (h : ∀ i, 0 ≤ f i ∧ f i ≤ 1) : 0 ≤ sm n f ∧ sm n f ≤ n := by
 have h1 := sm_le (n := n) (f := fun _ => 0) (g := f) fun i _ => (h i).1
 have h2 := sm_le (n := n) (f := f) (g := fun _ => 1) fun i _ => (h i).2
 rw [sm_const] at h1 h2
 omega
theorem dC_bd {E : List (Int × Int)} {p C : Nat} (hp : p ≤ 2) (h0 : 0 < p) (x : Nat) : ∀ k : Nat, -(2 * (k : Int)) ≤ dC E p C k x ∧ dC E p C k x ≤ 2 * (k : Int) := by
 intro k
 induction k with
 | zero => simp [dC]
 | succ k ih =>
  have hm : C / p ^ k % p < p := Nat.mod_lt _ h0
  simp only [dC, bp]
  generalize C / p ^ k % p = d at *
  split <;> split <;> push_cast <;> omega
theorem flow_loop : Gets (tutte_Flow 1 [(0, 0)]) (fun r => r.2 = 0 ∧ r.1 = [-1, 1]) := by
 refine (Flow_spec 1 [(0, 0)]).mono ?_
 rintro ⟨l, e⟩ (⟨h1, h2⟩ | ⟨h1, N, h2, h3, h4, h5, h6⟩)
 ·have hc : kinds_CheckGraph 1 [(0, 0)] = some 0 := by
   unfold kinds_CheckGraph
   rw [if_neg (by simp), loopM_inl (s' := 1) (by simp [chk]), loopM_inr (r := .inl ()) (by simp [chk])]
   rfl
  exfalso
  rw [hc] at h2
  exact h1 (Option.some.inj h2.2).symm
 ·dsimp only at h1 h2 h4 h5 h6 ⊢
  refine ⟨h1, ?_⟩
  have hl : l.length = 2 := h4
  match l, hl, h6 with
  | [a, b], _, h6 =>
   have e0 := h6 0
   have e1 := h6 1
   have s0 : (sm (2 ^ [((0 : Int), (0 : Int))].length) fun s => sg s [((0 : Int), (0 : Int))].length * (0 : Int) ^ nu [(0, 0)] s [((0 : Int), (0 : Int))].length) = -1 := by decide
   have s1 : (sm (2 ^ [((0 : Int), (0 : Int))].length) fun s => sg s [((0 : Int), (0 : Int))].length * (1 : Int) ^ nu [(0, 0)] s [((0 : Int), (0 : Int))].length) = 0 := by decide
   rw [s0] at e0
   rw [s1] at e1
   simp only [pval] at e0 e1
   have ea : a = -1 := by omega
   have eb : b = 1 := by omega
   rw [ea, eb]
open Classical in
theorem rotakeep_TutteFlows_law (n : Int) (E : List (Int × Int)) (a1 : Int) (h1 : -9223372036854775808 ≤ a1) (h2 : a1 ≤ 9223372036854775807) : rotakeep_TutteFlows n E a1 = some true := by
  refine Gets.eq ?_
  unfold rotakeep_TutteFlows
  refine gBind flow_loop fun y hy => gIte (fun _ => ?_) fun q => absurd (fun r => r hy.1) q
  refine gBindE (Same_spec hy.2 (by rw [hy.2]; simp)) (gIte (fun q => absurd rfl q) fun _ => ?_)
  refine gBind (Flow_spec n E) fun y2 hy2 => ?_
  rcases hy2 with ⟨g1, g2, _⟩ | ⟨g1, N, rfl, hG, hL, hB, hP⟩
  · exact gIte (fun _ => gSome (by rw [g2]; rfl)) fun q => absurd g1 q
  refine gIte (fun q => absurd g1 q) fun _ => ?_
  refine gBind (show Gets (rotaref_Pick a1 3) _ from Pick_spec a1 3 (by omega) h1 h2) ?_
  rintro _ ⟨p, rfl, hp⟩
  have ep : 1 + (p : Int) - 1 = (p : Int) := by omega
  have eq1 : 1 + (p : Int) = ((p + 1 : Nat) : Int) := by push_cast; omega
  rw [ep]
  have h8 := hG.e8
  have h7 := hG.n7
  have hpm := power_spec (p := p) (by omega) h8
  have hle := pw_le (p := p) (by omega) h8
  refine gChk (by omega) (gChk (by omega) (gBindE hpm ?_))
  have hind : ∀ C, 0 ≤ (if ∀ x, x < N → ((p + 1 : Nat) : Int) ∣ dC E p C E.length x then (1 : Int) else 0) ∧ (if ∀ x, x < N → ((p + 1 : Nat) : Int) ∣ dC E p C E.length x then (1 : Int) else 0) ≤ 1 := fun C => by split <;> omega
  refine gBind (R := fun v : Int => v = sm (p ^ E.length) fun C => if ∀ x, x < N → ((p + 1 : Nat) : Int) ∣ dC E p C E.length x then 1 else 0)
    (gFor (p ^ E.length) (fun (k : Nat) (z : Int × Int) => z.2 = (k : Int) ∧ z.1 = sm k fun C => if ∀ x, x < N → ((p + 1 : Nat) : Int) ∣ dC E p C E.length x then 1 else 0) (Nat.zero_le _) ⟨rfl, rfl⟩ ?_) ?_
  · rintro C ⟨v, v1⟩ hC ⟨e1, e2⟩
    dsimp only at e1 e2 ⊢
    subst e1
    refine gIte (fun q => ?_) fun q => gSome (by have : C = p ^ E.length := by omega
                                                 subst this; exact e2)
    have hC' : C < p ^ E.length := by omega
    refine gChk (by omega) ?_
    refine gBind (R := fun l : List Int => l.length = N ∧ ∀ x, x < N → l.getD x 0 = dC E p C E.length x)
      (gFor E.length (fun (k : Nat) (z : List Int × Int) => z.2 = (k : Int) ∧ z.1.length = N ∧ ∀ x, x < N → z.1.getD x 0 = dC E p C k x) (Nat.zero_le _) ⟨rfl, by simp, fun x hx => by
        simp [dC, List.getD_eq_getElem?_getD, List.getElem?_replicate, hx]⟩ ?_) ?_
    · rintro k ⟨l, v4⟩ hk ⟨f1, f2, f3⟩
      dsimp only at f1 f2 f3 ⊢
      subst f1
      refine gIte (fun q2 => ?_) fun q2 => gSome (by have : k = E.length := by omega
                                                     subst this; exact ⟨f2, f3⟩)
      have hk' : k < E.length := by omega
      obtain ⟨u1, u2, u3, u4⟩ := hG.eu hk'
      have hp0 : 0 < p := by
        rcases Nat.eq_zero_or_pos p with r | r
        · subst r; rw [Nat.zero_pow (by omega)] at hC'; omega
        · exact r
      have hpk := power_spec (p := p) (b := k) (by omega) (by omega)
      have hpp : 0 < p ^ k := Nat.pow_pos hp0
      have hple := pw_le (p := p) (b := k) (by omega) (by omega)
      have ed : Int.tdiv (C : Int) ((p ^ k : Nat) : Int) = ((C / p ^ k : Nat) : Int) := by rw [Int.tdiv_eq_ediv_of_nonneg (by omega)]; rfl
      have em : Int.tmod ((C / p ^ k : Nat) : Int) (p : Int) = ((C / p ^ k % p : Nat) : Int) := by rw [Int.tmod_eq_emod_of_nonneg (Int.natCast_nonneg _)]; rfl
      have hdl : C / p ^ k ≤ C := Nat.div_le_self _ _
      have hml : C / p ^ k % p < p := Nat.mod_lt _ hp0
      rw [toNat_nat, u1, u2, toNat_nat, toNat_nat]
      refine gChk (by omega) (gChk (by omega) (gBindE hpk ?_))
      rw [ed, em]
      generalize hc : C / p ^ k = c at *
      refine gChk (by omega) ?_
      have b1 := dC_bd (E := E) (C := C) (show p ≤ 2 by omega) hp0 (eU E k) k
      have b2 := dC_bd (E := E) (C := C) (show p ≤ 2 by omega) hp0 (eV E k) k
      have w1 := f3 _ u3
      have w2 := f3 _ u4
      generalize hd : c % p = d at *
      have s1 : (l.set (eU E k) (l.getD (eU E k) 0 + (1 + (d : Int)))).getD (eV E k) 0 = dC E p C k (eV E k) + if eV E k = eU E k then 1 + (d : Int) else 0 := by
        by_cases r : eV E k = eU E k
        · rw [r, getD_set_self (by omega), if_pos rfl, w1]
        · rw [getD_set_ne (fun t => r t.symm), if_neg r, w2]; omega
      refine gChk ⟨by omega, by rw [w1]; omega⟩ (gChk ⟨by first | omega | (rw [List.length_set]; omega), by rw [s1]; split <;> omega⟩ (gSome ⟨by omega, by simp, by simp [f2], fun x hx => ?_⟩))
      dsimp only
      simp only [dC, bp, hc, hd]
      by_cases r : eV E k = x
      · subst r
        rw [getD_set_self (by rw [List.length_set]; omega), s1, if_pos (show eV E k = eV E k from rfl)]
      · rw [getD_set_ne r, if_neg (show ¬ x = eV E k from fun t => r t.symm)]
        by_cases r2 : eU E k = x
        · subst r2
          rw [getD_set_self (by omega), if_pos (show eU E k = eU E k from rfl), w1]; omega
        · rw [getD_set_ne r2, if_neg (show ¬ x = eU E k from fun t => r2 t.symm), f3 x hx]; omega
    · rintro l ⟨l1, l2⟩
      rw [eq1]
      refine gBind (Contains_spec (by omega) (by omega)) fun b hb => ?_
      have hbd := ind_bd (n := C) hind
      rw [← e2] at hbd
      have hb2 : b = true ↔ ¬ ∀ x, x < N → ((p + 1 : Nat) : Int) ∣ dC E p C E.length x := by
        rw [hb, l1]
        constructor
        · intro h h'; exact h fun x hx => by rw [l2 x hx]; exact h' x hx
        · intro h h'; exact h fun x hx => by rw [← l2 x hx]; exact h' x hx
      refine gIte (fun q3 => gChk (by omega) (gSome ⟨by omega, by simp, ?_⟩)) fun q3 => gSome ⟨by omega, by simp, ?_⟩
      · dsimp only
        rw [sm, if_pos (Classical.not_not.1 fun r => q3 (hb2.2 r)), ← e2]
      · dsimp only
        rw [sm, if_neg (hb2.1 (Classical.not_not.1 q3)), ← e2]; omega
  · intro v hv
    rw [← flows (hG.en (Nat.le_refl _))] at hv
    have hv2 := hv
    rw [← hP] at hv2
    have hbd := ind_bd (n := p ^ E.length) hind
    rw [← flows (hG.en (Nat.le_refl _)), ← hv] at hbd
    obtain ⟨V, rfl⟩ := Int.eq_ofNat_of_zero_le hbd.1
    rw [eq1]
    have hnl : nu E (2 ^ E.length - 1) E.length ≤ 8 := by
      have : ∀ k, nu E (2 ^ E.length - 1) k ≤ k := by
        intro k
        induction k with
        | zero => exact Nat.le_refl _
        | succ k ih => simp only [nu]; split <;> omega
      have := this E.length
      omega
    refine gBind (value_spec (fun i _ => by have := hB i; omega) (by omega) (by omega)) fun y7 hy7 => ?_
    rw [← hv2] at hy7
    refine gBindE (String_spec hy7 (by omega)) ?_
    refine gBindE (show strconv_Itoa (V : Int) = some (Lib.itoa (V : Int)) by unfold strconv_Itoa; exact chk_pos (by omega)) (gSome ?_)
    rw [decide_eq_true_iff]
end Go.SH
