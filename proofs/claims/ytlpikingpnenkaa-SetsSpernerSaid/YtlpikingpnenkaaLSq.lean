/-
 Fractions of the verifier's own: numbers of one word, their greatest common divisor, quotients. Conditions: numbers below 2^32.
-/
import Derived.Test.YtlpikingpnenkaaLBg
set_option linter.unusedSimpArgs false
set_option linter.unusedVariables false
namespace Go.SH
open Go Go.AX
theorem one_word {l : List Int} {n : Int} (h : Bwd l n) (h1 : n < 4294967296) : l = if n = 0 then [] else [n] := by
 obtain ⟨h2, h3, h4⟩ := h
 have hz := wv_zero h2 h3
 split
 ·exact hz.1 (by omega)
 ·have hl := wv_lenB (n := 1) h2 h3 (by rw [h4]; show n < (4294967296 : Int) ^ 1; omega)
  match l, hl, h4, hz with
  | [], _, h4, _ => simp [wv] at h4; omega
  | [x], _, h4, _ => simp [wv] at h4; rw [h4]
/-- A number as its list of words (at most one). -/
def wdn (n : Nat) : List Int := if (n : Int) = 0 then [] else [(n : Int)]
theorem wdn_len (n : Nat) : (wdn n).length ≤ 1 := by unfold wdn; split <;> simp
theorem plain_spec {n : Nat} (h : n < 4294967296) : rotabig_plain (wdn n) = some (n : Int) := by
 unfold rotabig_plain wdn
 by_cases c : (n : Int) = 0
 ·rw [if_pos c, c]; rfl
 ·rw [if_neg c]
  simp only [joinM]
  rw [if_pos (by simp), chk_pos ⟨by simp, by show (0 : Int) ≤ (n : Int) ∧ (n : Int) ≤ 18446744073709551615; omega⟩, if_neg (by simp)]
  rfl
theorem words_one {n : Nat} (h : n < 4294967296) : rotabig_words (n : Int) = some (wdn n) := by
 obtain ⟨r, hr, hb⟩ := words_spec (x := (n : Int)) (by omega) (by omega)
 rw [hr, one_word hb (by omega)]; rfl
/-- EUCLID on numbers. -/
theorem euclid_loop : ∀ (y x : Nat), loopM (ρ := Int) (fun ((x, y2) : Int × Int) =>
 if 0 < y2 then
 chk (y2 ≠ 0) <|
 some (.inl (y2, Int.tmod x y2))
 else
 some (.inr x)) ((x : Int), (y : Int)) = some ((Nat.gcd x y : Nat) : Int) := by
 intro y
 induction y using Nat.strongRecOn with
 | ind y ih =>
  intro x
  rcases Nat.eq_zero_or_pos y with h | h
  ·subst h
   rw [Nat.gcd_zero_right]
   exact loopM_inr rfl
  ·have em : Int.tmod (x : Int) (y : Int) = ((x % y : Nat) : Int) := by rw [Int.tmod_eq_emod_of_nonneg (by omega)]; rfl
   have := ih (x % y) (Nat.mod_lt _ h) y
   rw [Nat.gcd_comm x y, Nat.gcd_rec y x, Nat.gcd_comm, ← this]
   refine loopM_inl ?_
   show (if 0 < (y : Int) then _ else _) = _
   rw [if_pos (by omega), chk_pos (by omega), em]
theorem common_spec {p q : Nat} (hp : p < 4294967296) (hq : q < 4294967296) (h0 : 0 < q) : rotabig_common (wdn p) (wdn q) = some (wdn (Nat.gcd p q)) := by
 unfold rotabig_common
 have l1 := wdn_len p
 have l2 := wdn_len q
 have l3 : ((wdn q).length : Int) ≠ 0 := by unfold wdn; rw [if_neg (by omega)]; simp
 rw [loopM_inr (r := ()) (by rw [if_neg (by omega)])]
 simp only [Option.bind_some]
 rw [if_neg l3, if_neg (by omega), plain_spec hp, plain_spec hq]
 simp only [Option.bind_some]
 rw [euclid_loop]
 simp only [Option.bind_some]
 rw [words_one (Nat.lt_of_le_of_lt (Nat.gcd_le_right _ h0) hq)]; rfl
theorem wdn_ok {n : Nat} (h : n < 4294967296) : wok (wdn n) ∧ wtr (wdn n) ∧ wv (wdn n) = (n : Int) := by
 unfold wdn
 by_cases c : (n : Int) = 0
 ·rw [if_pos c]; exact ⟨wok_nil, .inl rfl, by rw [c]; rfl⟩
 ·rw [if_neg c]; exact ⟨wok_cons.2 ⟨by omega, wok_nil⟩, .inr (by simpa using c), by simp [wv]⟩
theorem div_spec {p g : Nat} (hp : p < 4294967296) (h0 : 0 < g) (hg : g ≤ p) : rotabig_div (wdn p) (wdn g) = some (wdn (p / g), wdn (p % g)) := by
 have hg2 : g < 4294967296 := by omega
 obtain ⟨a1, a2, a3⟩ := wdn_ok hp
 obtain ⟨b1, b2, b3⟩ := wdn_ok hg2
 have l1 := wdn_len p
 unfold rotabig_div
 rw [if_neg (by unfold wdn; rw [if_neg (by omega)]; simp)]
 obtain ⟨r, hr, hv⟩ := cmp_spec a1 b1 a2 b2 (by omega)
 rw [a3, b3, if_neg (by omega)] at hv
 rw [hr]
 simp only [Option.bind_some]
 have ed : Int.tdiv (p : Int) (g : Int) = ((p / g : Nat) : Int) := by rw [Int.tdiv_eq_ediv_of_nonneg (by omega)]; rfl
 have em : Int.tmod (p : Int) (g : Int) = ((p % g : Nat) : Int) := by rw [Int.tmod_eq_emod_of_nonneg (by omega)]; rfl
 have d1 : p / g ≤ p := Nat.div_le_self _ _
 have d2 : p % g < g := Nat.mod_lt _ h0
 rw [if_neg (by rw [hv]; split <;> omega), if_pos (by omega), plain_spec hp, plain_spec hg2]
 simp only [Option.bind_some]
 rw [ed, em]
 generalize p / g = x at *
 generalize p % g = y at *
 rw [chk_pos (by omega), words_one (by omega), Option.bind_some, chk_pos (by omega), words_one (by omega)]
 rfl
theorem wdn_pos {n : Nat} (h : 0 < n) : wdn n = [(n : Int)] := by unfold wdn; rw [if_neg (by omega)]
theorem wdn_one {n : Nat} (h : 0 < n) : ((wdn n).length : Int) = 1 ∧ ((wdn n).getD 0 0 = 1 ↔ n = 1) := by
 rw [wdn_pos h]
 refine ⟨rfl, ?_⟩
 show (n : Int) = 1 ↔ n = 1
 omega
theorem norm_spec {p q : Nat} (hp : p < 4294967296) (hq : q < 4294967296) (p0 : 0 < p) (q0 : 0 < q) :
  rotabig_Rat_norm ((false, wdn p), (false, wdn q)) = some ((false, wdn (p / Nat.gcd p q)), (false, wdn (q / Nat.gcd p q))) := by
 have g0 : 0 < Nat.gcd p q := Nat.gcd_pos_of_pos_left _ p0
 have gp : Nat.gcd p q ≤ p := Nat.gcd_le_left _ p0
 have gq : Nat.gcd p q ≤ q := Nat.gcd_le_right _ q0
 have lp := (wdn_one p0).1
 have lq := wdn_one q0
 have lg := wdn_one g0
 unfold rotabig_Rat_norm
 dsimp only
 rw [if_neg (by omega), if_neg (by simp), if_neg (by omega), chk_pos (by omega)]
 by_cases c : q = 1
 ·subst c
  rw [if_pos ⟨lq.1, lq.2.2 rfl⟩, Nat.gcd_one_right, Nat.div_one]
 ·rw [if_neg fun h => c (lq.2.1 h.2), common_spec hp hq q0]
  simp only [Option.bind_some]
  rw [chk_pos (by omega)]
  by_cases d : Nat.gcd p q = 1
  ·rw [if_pos ⟨lg.1, lg.2.2 d⟩, d, Nat.div_one, Nat.div_one]
  ·rw [if_neg fun h => d (lg.2.1 h.2), div_spec hp g0 gp, div_spec hq g0 gq]
   rfl
/-- A number without a sign. -/
def nb (n : Nat) : Bool × List Int := (false, wdn n)
theorem Bg_one {r : Bool × List Int} {n : Nat} (h : Bg r (n : Int)) (hn : n < 4294967296) : r = nb n := by
 obtain ⟨h1, h2, h3, h4⟩ := h
 have e := one_word (n := (n : Int)) ⟨h1, h2, by rw [h3]; rfl⟩ (by omega)
 have b : r.1 = false := by
  cases c : r.1 with
  | false => rfl
  | true => have := h4.1 c; omega
 exact Prod.ext b e
theorem nb_Bg {n : Nat} (hn : n < 4294967296) : Bg (nb n) (n : Int) := by
 obtain ⟨a1, a2, a3⟩ := wdn_ok hn
 exact ⟨a1, a2, by rw [nb, a3]; rfl, by simp [nb]⟩
theorem Set_spec {n : Nat} (q : Bool × List Int) : rotabig_Int_Set false (wdn n) q = some (nb n) := by
 have := wdn_len n
 unfold rotabig_Int_Set rotabig_twin
 rw [chk_pos (by omega)]
 simp [rotabig_Int_give, nb]
theorem SetFrac_spec {p q : Nat} (hp : p < 4294967296) (hq : q < 4294967296) (p0 : 0 < p) (q0 : 0 < q) (z : (Bool × List Int) × (Bool × List Int)) :
  rotabig_Rat_SetFrac false (wdn p) false (wdn q) z = some (nb (p / Nat.gcd p q), nb (q / Nat.gcd p q)) := by
 have lq := (wdn_one q0).1
 unfold rotabig_Rat_SetFrac
 rw [if_neg (by omega), Set_spec, Option.bind_some, Set_spec, Option.bind_some]
 show Option.bind (rotabig_Rat_norm ((false, wdn p), (false, wdn q))) _ = _
 rw [norm_spec hp hq p0 q0]; rfl
theorem NewRat_spec {c : Nat} (h0 : 0 < c) (h1 : c < 4294967296) : rotabig_NewRat 1 (c : Int) = some (nb 1, nb c) := by
 unfold rotabig_NewRat
 rw [if_neg (by omega)]
 obtain ⟨a, ha, hb⟩ := newInt_spec (x := ((1 : Nat) : Int)) (by omega) (by omega)
 obtain ⟨a2, ha2, hb2⟩ := newInt_spec (x := (c : Int)) (by omega) (by omega)
 have e1 := Bg_one hb (by omega)
 have e2 := Bg_one hb2 h1
 subst e1 e2
 rw [show rotabig_NewInt 1 = some (nb 1) from ha, Option.bind_some, ha2, Option.bind_some]
 show Option.bind (rotabig_Rat_SetFrac false (wdn 1) false (wdn c) _) _ = _
 rw [SetFrac_spec (by omega) h1 (by omega) h0, Nat.gcd_one_left, Nat.div_one, Nat.div_one]; rfl
theorem Mul_nb {a b : Nat} (ha : a < 4294967296) (hb : b < 4294967296) (h : a * b < 4294967296) (q : Bool × List Int) : rotabig_Int_Mul_r false (wdn a) false (wdn b) q = some (nb (a * b)) := by
 have la := wdn_len a
 have lb := wdn_len b
 obtain ⟨r, hr, hB⟩ := mulI_spec (q0 := q) (nb_Bg ha) (nb_Bg hb) (by show (wdn a).length < _; omega) (by show (wdn b).length < _; omega)
 have e : ((a : Int) * (b : Int)) = ((a * b : Nat) : Int) := by push_cast; rfl
 rw [e] at hB
 have := Bg_one hB h
 subst this
 exact hr
theorem Add_nb {a b : Nat} (ha : a < 4294967296) (hb : b < 4294967296) (h : a + b < 4294967296) (q : Bool × List Int) : rotabig_Int_Add_r false (wdn a) false (wdn b) q = some (nb (a + b)) := by
 have la := wdn_len a
 have lb := wdn_len b
 obtain ⟨r, hr, hB⟩ := addI_spec (q0 := q) (nb_Bg ha) (nb_Bg hb) (by show (wdn a).length < _; omega) (by show (wdn b).length < _; omega)
 have e : ((a : Int) + (b : Int)) = ((a + b : Nat) : Int) := by push_cast; rfl
 rw [e] at hB
 have := Bg_one hB h
 subst this
 exact hr
theorem denB_spec {q : Nat} (h : 0 < q) (x : Bool × List Int) : rotabig_Rat_den_B (x, (false, wdn q)) = some (x, nb q) := by
 have := (wdn_one h).1
 unfold rotabig_Rat_den_B
 dsimp only
 rw [if_neg (by omega)]; rfl
theorem denA_spec : rotabig_Rat_den_A ((false, []), (false, [])) = some (nb 1, ((false, []), (false, []))) := by
 unfold rotabig_Rat_den_A
 obtain ⟨a, ha, hb⟩ := newInt_spec (x := ((1 : Nat) : Int)) (by omega) (by omega)
 have e1 := Bg_one hb (by omega)
 subst e1
 rw [if_pos (by simp), show rotabig_NewInt 1 = some (nb 1) from ha]; rfl
/-- The sum of a fraction and 1/c. -/
theorem AddR_spec {p q c : Nat} (p0 : 0 < p) (q0 : 0 < q) (c0 : 0 < c) (h1 : p * c + q < 4294967296) (h2 : q * c < 4294967296) :
  Gets (rotabig_Rat_Add (nb p, nb q) (nb 1, nb c)) (fun r => r.1 = (nb ((p * c + q) / Nat.gcd (p * c + q) (q * c)), nb (q * c / Nat.gcd (p * c + q) (q * c)))) := by
 have hpc : p * 1 ≤ p * c := Nat.mul_le_mul_left p c0
 have hqc : q * 1 ≤ q * c := Nat.mul_le_mul_left q c0
 have hcc : 1 * c ≤ q * c := Nat.mul_le_mul_right c q0
 have s0 : 0 < q * c := Nat.mul_pos q0 c0
 unfold rotabig_Rat_Add
 rw [if_neg (by show ¬ wdn q = []; rw [wdn_pos q0]; simp)]
 unfold rotabig_Rat_Add_B
 refine gBindE (denB_spec c0 _) ?_
 refine gBindE (Mul_nb (by omega) (by omega) (by omega) _) ?_
 refine gBindE (denB_spec q0 _) ?_
 refine gBindE (Mul_nb (a := 1) (b := q) (by omega) (by omega) (by omega) _) ?_
 refine gBindE (Add_nb (by omega) (by omega) (by omega) _) ?_
 refine gBindE (denB_spec q0 _) ?_
 refine gBindE (denB_spec c0 _) ?_
 refine gBindE (Mul_nb (by omega) (by omega) h2 _) ?_
 refine gBindE (SetFrac_spec (p := p * c + 1 * q) (q := q * c) (by omega) h2 (by omega) s0 _) (gSome ?_)
 rw [Nat.one_mul]
theorem AddZ_spec {c : Nat} (c0 : 0 < c) (h : c < 4294967296) : Gets (rotabig_Rat_Add ((false, []), (false, [])) (nb 1, nb c)) (fun r => r.1 = (nb 1, nb c)) := by
 unfold rotabig_Rat_Add
 rw [if_pos rfl]
 unfold rotabig_Rat_Add_A
 refine gBindE (denB_spec c0 _) ?_
 refine gBindE (Mul_nb (a := 0) (b := c) (by omega) h (by omega) _) ?_
 refine gBindE denA_spec ?_
 refine gBindE (Mul_nb (a := 1) (b := 1) (by omega) (by omega) (by omega) _) ?_
 refine gBindE (Add_nb (a := 0 * c) (b := 1 * 1) (by omega) (by omega) (by omega) _) ?_
 refine gBindE denA_spec ?_
 refine gBindE (denB_spec c0 _) ?_
 refine gBindE (Mul_nb (a := 1) (b := c) (by omega) h (by omega) _) ?_
 refine gBindE (SetFrac_spec (p := 0 * c + 1 * 1) (q := 1 * c) (by omega) (by omega) (by omega) (by omega) _) (gSome ?_)
 simp
end Go.SH
