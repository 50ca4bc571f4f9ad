/-
  Bases by their elements: the order, and that it is a shelling whose restrictions are what is not active within. Conditions: none.
-/
import Derived.Test.YtabhcjpjoknihaaLxC
set_option linter.unusedSimpArgs false
set_option linter.unusedVariables false
namespace Go.SH
open Go Go.AX

/-! ### the order -/
theorem lt_topb {x y i : Nat} (hx : x.testBit i = false) (hy : y.testBit i = true) (h : ∀ j, i < j → x.testBit j = y.testBit j) : x < y := by
  have e : x / 2 ^ (i + 1) = y / 2 ^ (i + 1) := Nat.eq_of_testBit_eq fun j => by
    rw [Nat.testBit_div_two_pow, Nat.testBit_div_two_pow]; exact h _ (by omega)
  rw [Nat.pow_succ, ← Nat.div_div_eq_div_mul, ← Nat.div_div_eq_div_mul] at e
  rw [Nat.testBit_eq_decide_div_mod_eq] at hx hy
  simp only [decide_eq_false_iff_not, decide_eq_true_eq] at hx hy
  rcases Nat.lt_or_ge x y with c | c
  · exact c
  · have := Nat.div_le_div_right (c := 2 ^ i) c
    omega
def rev8 (a : Nat) : Nat := mkset 8 fun j => a.testBit (7 - j)
def kx (a : Nat) : Nat := 255 - rev8 a
theorem rev8_lt (a : Nat) : rev8 a < 256 := mkset_lt 8 _
theorem rev8_bit {a j : Nat} (hj : j < 8) : (rev8 a).testBit j = a.testBit (7 - j) := by unfold rev8; rw [mkset_bit]; simp [hj]
/-- The first element that is not in both is in the first one. -/
def Lx (a b : Nat) : Prop := ∃ i, a.testBit i = true ∧ b.testBit i = false ∧ ∀ j, j < i → a.testBit j = b.testBit j
theorem Lx.key {a b : Nat} (ha : a < 256) (h : Lx a b) : kx a < kx b := by
  obtain ⟨i, h1, h2, h3⟩ := h
  have hi : i < 8 := bit_lt (m := 8) ha h1
  have hlt : rev8 b < rev8 a := by
    refine lt_topb (i := 7 - i) (by rw [rev8_bit (by omega)]; rw [show 7 - (7 - i) = i by omega]; exact h2) (by rw [rev8_bit (by omega)]; rw [show 7 - (7 - i) = i by omega]; exact h1) fun j hj => ?_
    rcases Nat.lt_or_ge j 8 with c | c
    · rw [rev8_bit c, rev8_bit c]; exact (h3 (7 - j) (by omega)).symm
    · rw [bit_ge (m := 8) (rev8_lt a) c, bit_ge (m := 8) (rev8_lt b) c]
  have := rev8_lt a
  have := rev8_lt b
  unfold kx; omega
theorem lx_or {a b : Nat} (hne : a ≠ b) (ha : a < 256) (hb : b < 256) : IsLow (a ^^^ b) (lo1 (a ^^^ b)) ∧ a ^^^ b ≠ 0 := by
  have hz : a ^^^ b ≠ 0 := fun z => hne (Nat.eq_of_testBit_eq fun i => by
    have : (a ^^^ b).testBit i = false := by rw [z]; simp
    rw [Nat.testBit_xor] at this
    cases p : a.testBit i <;> cases q : b.testBit i <;> simp [p, q] at this ⊢)
  exact ⟨low_spec (Nat.xor_lt_two_pow (n := 8) ha hb) hz, hz⟩
theorem lex_nat {a b : Nat} (ha : a < 256) (hb : b < 256) : complex_Lexical_1 (a : Int) (b : Int) = some (cmpK (kx a) (kx b)) := by
  unfold complex_Lexical_1
  rw [xor_nat]
  have hlt : a ^^^ b < 256 := Nat.xor_lt_two_pow (n := 8) ha hb
  rw [chk_pos (by omega)]
  by_cases hab : a = b
  · subst hab
    rw [Nat.xor_self, if_pos (by rfl)]
    unfold cmpK; simp
  · obtain ⟨hlow, hz⟩ := lx_or hab ha hb
    have t1 := hlow.neg
    rw [if_neg (by omega), t1, and_nat]
    have bx1 : ∀ j, j < lo1 (a ^^^ b) → a.testBit j = b.testBit j := fun j hj => by
      have := hlow.least j hj
      rw [Nat.testBit_xor] at this
      cases p : a.testBit j <;> cases q : b.testBit j <;> simp [p, q] at this ⊢
    have bx2 := hlow.bit
    rw [Nat.testBit_xor] at bx2
    cases p : a.testBit (lo1 (a ^^^ b)) with
    | true =>
      have q : b.testBit (lo1 (a ^^^ b)) = false := by rw [p] at bx2; simpa using bx2
      have k := Lx.key ha ⟨_, p, q, bx1⟩
      have hne : a &&& 2 ^ lo1 (a ^^^ b) ≠ 0 := fun z => by
        have := bit_cases _ _ z
        rw [p] at this; cases this
      rw [if_pos (by omega)]
      unfold cmpK; rw [if_pos k]
    | false =>
      have q : b.testBit (lo1 (a ^^^ b)) = true := by rw [p] at bx2; simpa using bx2
      have k := Lx.key hb ⟨_, q, p, fun j hj => (bx1 j hj).symm⟩
      have hne : a &&& 2 ^ lo1 (a ^^^ b) = 0 := Nat.eq_of_testBit_eq fun i => by
        rw [Nat.testBit_and, testBit_pow, Nat.zero_testBit]
        by_cases c : lo1 (a ^^^ b) = i
        · subst c; rw [p]; rfl
        · simp [c]
      rw [hne, if_neg (by simp)]
      unfold cmpK; rw [if_neg (by omega), if_pos k]
theorem kx_inj {a b : Nat} (ha : a < 256) (hb : b < 256) (h : kx a = kx b) : a = b := by
  rcases Nat.decEq a b with c | c
  · exfalso
    obtain ⟨hlow, hz⟩ := lx_or c ha hb
    have hlt : a ^^^ b < 256 := Nat.xor_lt_two_pow (n := 8) ha hb
    have bx1 : ∀ j, j < lo1 (a ^^^ b) → a.testBit j = b.testBit j := fun j hj => by
      have := hlow.least j hj
      rw [Nat.testBit_xor] at this
      cases p : a.testBit j <;> cases q : b.testBit j <;> simp [p, q] at this ⊢
    have bx2 := hlow.bit
    rw [Nat.testBit_xor] at bx2
    cases p : a.testBit (lo1 (a ^^^ b)) with
    | true =>
      have q : b.testBit (lo1 (a ^^^ b)) = false := by rw [p] at bx2; simpa using bx2
      have := Lx.key ha ⟨_, p, q, bx1⟩
      omega
    | false =>
      have q : b.testBit (lo1 (a ^^^ b)) = true := by rw [p] at bx2; simpa using bx2
      have := Lx.key hb ⟨_, q, p, fun j hj => (bx1 j hj).symm⟩
      omega
  · exact c
/-- In that order, each once. -/
structure LexO (B O : List Nat) : Prop where
  perm : O.Perm B
  ord : O.Pairwise fun a b => kx a < kx b
theorem srt_ok {B : List Nat} (hlt : ∀ s, s ∈ B → s < 256) (hn : B.Nodup) : SrtOk (fun x0 x1 => complex_Lexical_1 x0 x1) (cs B) ∧ ∃ O, srtL (fun x0 x1 => complex_Lexical_1 x0 x1) (cs B) = cs O ∧ LexO B O := by
  refine ⟨⟨fun x hx => ?_, fun i => kx i.val, fun i j e => Fin.ext (kx_inj i.isLt j.isLt e), fun i j => lex_nat i.isLt j.isLt⟩, ?_⟩
  · obtain ⟨a, ha, rfl⟩ := List.mem_map.1 hx
    have := hlt a ha
    omega
  · have hm : List.map (fun x : Nat => (x : Int)) (B.mergeSort fun x y : Nat => decide (kx x ≤ kx y)) = srtL (fun x0 x1 => complex_Lexical_1 x0 x1) (cs B) := by
      unfold srtL
      rw [List.map_mergeSort (s := fun x y : Int => decide ((complex_Lexical_1 x y).getD 0 ≤ 0)) (f := fun x : Nat => (x : Int)) fun a ha b hb => ?_]
      · rfl
      · rw [lex_nat (hlt a ha) (hlt b hb)]
        unfold cmpK
        simp only [Option.getD_some]
        by_cases c1 : kx a < kx b
        · simp [c1]; omega
        · by_cases c2 : kx b < kx a
          · simp [c1, c2]
          · simp [c1, c2]; omega
    have hp := List.mergeSort_perm B fun x y => decide (kx x ≤ kx y)
    have hs := List.pairwise_mergeSort (le := fun x y : Nat => decide (kx x ≤ kx y)) (fun a b c h1 h2 => by simp only [decide_eq_true_eq] at *; omega) (fun a b => by simp only [Bool.or_eq_true, decide_eq_true_eq]; omega) B
    refine ⟨_, hm.symm, hp, ?_⟩
    have hnd : (B.mergeSort fun x y => decide (kx x ≤ kx y)).Nodup := hp.nodup_iff.2 hn
    have both := List.Pairwise.and hs hnd
    refine both.imp_of_mem fun {a b} ha hb h => ?_
    have h1 : kx a ≤ kx b := of_decide_eq_true h.1
    have h2 : kx a ≠ kx b := fun e => h.2 (kx_inj (hlt a (hp.mem_iff.1 ha)) (hlt b (hp.mem_iff.1 hb)) e)
    omega
theorem uniq_key {k : Nat → Nat} : ∀ {L M : List Nat}, L.Pairwise (fun a b => k a < k b) → M.Pairwise (fun a b => k a < k b) → (∀ x, x ∈ L ↔ x ∈ M) → L = M
  | [], [], _, _, _ => rfl
  | [], b :: M, _, _, h => absurd ((h b).2 (List.mem_cons_self ..)) (by simp)
  | a :: L, [], _, _, h => absurd ((h a).1 (List.mem_cons_self ..)) (by simp)
  | a :: L, b :: M, h1, h2, h => by
    obtain ⟨a1, a2⟩ := List.pairwise_cons.1 h1
    obtain ⟨b1, b2⟩ := List.pairwise_cons.1 h2
    have e : a = b := by
      rcases List.mem_cons.1 ((h a).1 (List.mem_cons_self ..)) with q | q
      · exact q
      · rcases List.mem_cons.1 ((h b).2 (List.mem_cons_self ..)) with p | p
        · exact p.symm
        · have := b1 a q
          have := a1 b p
          omega
    subst e
    congr 1
    refine uniq_key a2 b2 fun x => ⟨fun hx => ?_, fun hx => ?_⟩
    · rcases List.mem_cons.1 ((h x).1 (List.mem_cons_of_mem _ hx)) with q | q
      · subst q; have := a1 x hx; omega
      · exact q
    · rcases List.mem_cons.1 ((h x).2 (List.mem_cons_of_mem _ hx)) with q | q
      · subst q; have := b1 x hx; omega
      · exact q
theorem LexO.lt {B O : List Nat} (h : LexO B O) {i j : Nat} (hij : i < j) (hj : j < O.length) : kx (O.getD i 0) < kx (O.getD j 0) := by
  have := List.pairwise_iff_getElem.1 h.ord i j (by omega) hj hij
  rw [List.getD_eq_getElem?_getD, List.getD_eq_getElem?_getD, List.getElem?_eq_getElem (by omega), List.getElem?_eq_getElem hj]
  exact this
theorem LexO.idx {B O : List Nat} (h : LexO B O) {i : Nat} (hi : i < O.length) {g : Nat} (hg : g ∈ B) (hk : kx g < kx (O.getD i 0)) : ∃ j, j < i ∧ O.getD j 0 = g := by
  obtain ⟨j, j1, j2⟩ := mem_getD.1 (h.perm.mem_iff.2 hg)
  refine ⟨j, ?_, j2⟩
  rcases Nat.lt_trichotomy j i with c | c | c
  · exact c
  · subst c; rw [j2] at hk; omega
  · have := h.lt c j1
    rw [j2] at this; omega
theorem lx_of_key {a b : Nat} (ha : a < 256) (hb : b < 256) (h : kx a < kx b) : Lx a b := by
  have c : a ≠ b := fun e => by rw [e] at h; omega
  obtain ⟨hlow, hz⟩ := lx_or c ha hb
  have hlt : a ^^^ b < 256 := Nat.xor_lt_two_pow (n := 8) ha hb
  have bx1 : ∀ j, j < lo1 (a ^^^ b) → a.testBit j = b.testBit j := fun j hj => by
    have := hlow.least j hj
    rw [Nat.testBit_xor] at this
    cases p : a.testBit j <;> cases q : b.testBit j <;> simp [p, q] at this ⊢
  have bx2 := hlow.bit
  rw [Nat.testBit_xor] at bx2
  cases p : a.testBit (lo1 (a ^^^ b)) with
  | true =>
    have q : b.testBit (lo1 (a ^^^ b)) = false := by rw [p] at bx2; simpa using bx2
    exact ⟨_, p, q, bx1⟩
  | false =>
    have q : b.testBit (lo1 (a ^^^ b)) = true := by rw [p] at bx2; simpa using bx2
    have := Lx.key hb ⟨_, q, p, fun j hj => (bx1 j hj).symm⟩
    omega
/-- A lesser element instead of a greater one: ahead. -/
theorem lx_swap {f x z : Nat} (hf : f < 256) (hz : z < 8) (hx : f.testBit x = true) (hzf : f.testBit z = false) (h : z < x) : kx (dif f (2 ^ x) ||| 2 ^ z) < kx f := by
  have hne : x ≠ z := by omega
  refine Lx.key (or_lt (n := 8) (dif_lt hf) (pow_lt hz)) ⟨z, by rw [Nat.testBit_or, testBit_pow]; simp, hzf, fun j hj => ?_⟩
  rw [Nat.testBit_or, testBit_dif, testBit_pow, testBit_pow]
  have h1 : ¬ x = j := by omega
  have h2 : ¬ z = j := by omega
  simp [h1, h2]
theorem swap_lx {f x z : Nat} (hf : f < 256) (hz : z < 8) (hx : f.testBit x = true) (hzf : f.testBit z = false) (h : kx (dif f (2 ^ x) ||| 2 ^ z) < kx f) : z < x := by
  rcases Nat.lt_trichotomy z x with c | c | c
  · exact c
  · subst c; rw [hx] at hzf; cases hzf
  · exfalso
    have := Lx.key hf (b := dif f (2 ^ x) ||| 2 ^ z) ⟨x, hx, by
      rw [Nat.testBit_or, testBit_dif, testBit_pow, testBit_pow]
      have h2 : ¬ z = x := by omega
      simp [h2], fun j hj => by
      rw [Nat.testBit_or, testBit_dif, testBit_pow, testBit_pow]
      have h1 : ¬ x = j := by omega
      have h2 : ¬ z = j := by omega
      simp [h1, h2]⟩
    omega
section
variable {m : Nat} {B : List Nat} (h : Mat m B)
include h
theorem Mat.cx : Cx m B := { h.toFam with
  ne := h.ne
  anti := fun s hs t ht hst => inc_eq_of_cnt hst (h.lt t ht) (by rw [h.eqc s hs t ht]; exact Nat.le_refl _) }
theorem Mat.lt256 {s : Nat} (hs : s ∈ B) : s < 256 := Nat.lt_of_lt_of_le (h.lt s hs) (pow_le8 h.m8)
theorem Mat.dimR : dimL m B = rk m B (2 ^ m - 1) := by
  obtain ⟨b, hb⟩ := h.exists_basis
  have hc : ∀ s, s ∈ B → cnt m s = rk m B (2 ^ m - 1) := fun s hs => by
    obtain ⟨_, h2, h3⟩ := (h.in_iff s).1 hs
    omega
  refine Nat.le_antisymm ?_ ?_
  · exact (foldl_max_le (f := cnt m)).2 ⟨by omega, fun f hf => by rw [hc f hf]; exact Nat.le_refl _⟩
  · rw [← hc b hb]; exact cnt_le_dim hb
theorem Mat.nod : B.Nodup := by
  refine List.pairwise_iff_getElem.2 fun i j hi hj hij => ?_
  have := h.rise i j hij hj
  rw [List.getD_eq_getElem?_getD, List.getD_eq_getElem?_getD, List.getElem?_eq_getElem hi, List.getElem?_eq_getElem hj] at this
  exact Nat.ne_of_lt this
/-- BJOERNER: bases by their elements are a shelling. -/
theorem Mat.lex_shell {O : List Nat} (ho : LexO B O) : Shell m O := by
  intro i hi j hj
  have hf : O.getD i 0 ∈ B := ho.perm.mem_iff.1 (mem_getD.2 ⟨i, hi, rfl⟩)
  have hg : O.getD j 0 ∈ B := ho.perm.mem_iff.1 (mem_getD.2 ⟨j, by omega, rfl⟩)
  have hk := ho.lt hj hi
  generalize hfe : O.getD i 0 = f at *
  generalize hge : O.getD j 0 = g at *
  obtain ⟨x, x1, x2, x3⟩ := lx_of_key (h.lt256 hg) (h.lt256 hf) hk
  -- x comes in, something greater goes out
  obtain ⟨y, y1, y2, y3⟩ : ∃ y, f.testBit y = true ∧ g.testBit y = false ∧ dif f (2 ^ y) ||| 2 ^ x ∈ B := by
    have lf := h.lt f hf
    have lg := h.lt g hg
    have hxm := bit_lt lg x1
    have fr : ∀ X, Inc X f → rk m B X = cnt m X := fun X hX => (h.ind_iff (hX.lt lf)).1 ⟨f, hf, hX⟩
    have hgx : Inc ((f &&& g) ||| 2 ^ x) g := inc_or (inc_and_r _ _) (inc_pow x1)
    have r1 := (h.ind_iff (hgx.lt lg)).1 ⟨g, hg, hgx⟩
    have c1 := cnt_add (m := m) (s := f &&& g) hxm (by rw [Nat.testBit_and, x2]; rfl)
    have r2 := fr (f &&& g) (inc_and_l _ _)
    obtain ⟨y, y1, y2, y3⟩ := h.fund hf (inc_and_l f g) hxm x2 (by omega)
    refine ⟨y, y1, ?_, y3⟩
    rw [Nat.testBit_and, y1, Bool.true_and] at y2
    exact y2
  have hxy : x < y := by
    rcases Nat.lt_trichotomy x y with c | c | c
    · exact c
    · subst c; rw [x1] at y2; cases y2
    · have := x3 y c; rw [y1, y2] at this; cases this
  have lf := h.lt f hf
  have hx8 : x < 8 := by have := bit_lt (h.lt g hg) x1; have := h.m8; omega
  obtain ⟨k, k1, k2⟩ := ho.idx hi y3 (by rw [hfe]; exact lx_swap (h.lt256 hf) hx8 y1 x2 hxy)
  refine ⟨k, k1, ?_, ?_⟩
  · rw [k2]
    have e : f &&& (dif f (2 ^ y) ||| 2 ^ x) = dif f (2 ^ y) := bx fun t => by
      rw [Nat.testBit_and, Nat.testBit_or, testBit_dif, testBit_pow, testBit_pow]
      by_cases c : x = t
      · subst c; rw [x2]; rfl
      · cases f.testBit t <;> simp [c]
    rw [e, cnt_dif lf y1]
  · rw [k2]
    intro t ht
    rw [Nat.testBit_and, Bool.and_eq_true] at ht
    rw [Nat.testBit_or, testBit_dif, testBit_pow, testBit_pow, ht.1]
    have : ¬ y = t := fun e => by subst e; rw [y2] at ht; cases ht.2
    simp [this]
theorem Mat.lex_res {O : List Nat} (ho : LexO B O) {i : Nat} (hi : i < O.length) : IsRes O i (dif (O.getD i 0) (ia m B (O.getD i 0))) := by
  intro x
  have hf : O.getD i 0 ∈ B := ho.perm.mem_iff.1 (mem_getD.2 ⟨i, hi, rfl⟩)
  have hfe : ∃ f, O.getD i 0 = f := ⟨_, rfl⟩
  obtain ⟨f, hfe⟩ := hfe
  rw [hfe] at hf ⊢
  have lf := h.lt f hf
  have l8 := h.lt256 hf
  have m8 := h.m8
  rw [testBit_dif, Bool.and_eq_true, Bool.not_eq_true']
  refine and_congr_right fun hx => ?_
  have hxm := bit_lt lf hx
  constructor
  · intro hia
    have hna : ¬ Act B f x := fun w => by
      have := (ia_bit m B f x).2 ⟨hxm, hx, w⟩
      rw [this] at hia; cases hia
    obtain ⟨z, z1, z2, z3⟩ : ∃ z, z < x ∧ f.testBit x ≠ f.testBit z ∧ f ^^^ 2 ^ x ^^^ 2 ^ z ∈ B := by
      rcases Classical.em (∃ z, z < x ∧ f.testBit x ≠ f.testBit z ∧ f ^^^ 2 ^ x ^^^ 2 ^ z ∈ B) with q | q
      · exact q
      · exact absurd (fun z z1 z2 z3 => q ⟨z, z1, z2, z3⟩) hna
    have hzf : f.testBit z = false := by rw [hx] at z2; simpa using z2
    rw [swap_io hx hzf] at z3
    obtain ⟨k, k1, k2⟩ := ho.idx hi z3 (by rw [hfe]; exact lx_swap l8 (by omega) hx hzf z1)
    refine ⟨k, k1, ?_⟩
    rw [k2]
    exact bx fun t => by
      rw [Nat.testBit_and, Nat.testBit_or, testBit_dif, testBit_pow, testBit_pow]
      by_cases c : z = t
      · subst c; rw [hzf]; simp
      · cases f.testBit t <;> simp [c]
  · rintro ⟨j, j1, j2⟩
    have hg : O.getD j 0 ∈ B := ho.perm.mem_iff.1 (mem_getD.2 ⟨j, by omega, rfl⟩)
    have hk := ho.lt j1 hi
    rw [hfe] at hk
    generalize O.getD j 0 = g at *
    have lg := h.lt g hg
    -- g is f with one element for x
    have c1 := cnt_dif lf hx
    have c2 := cnt_split m g f
    rw [j2] at c2
    have c3 := h.eqc f hf g hg
    obtain ⟨z, hz⟩ := exists_bit (c := dif g f) (fun w => by rw [w, cnt_zero] at c2; omega)
    rw [testBit_dif, Bool.and_eq_true, Bool.not_eq_true'] at hz
    have hzm := bit_lt lg hz.1
    have inc : Inc (dif f (2 ^ x) ||| 2 ^ z) g := inc_or (by rw [← j2]; exact inc_and_l _ _) (inc_pow hz.1)
    have c4 := cnt_add (m := m) (s := dif f (2 ^ x)) hzm (by rw [testBit_dif, hz.2]; rfl)
    have e := inc_eq_of_cnt inc lg (by omega)
    rw [← e] at hk hg
    have hzx := swap_lx l8 (by omega) hx hz.2 hk
    cases q : (ia m B f).testBit x
    · rfl
    · have := ((ia_bit m B f x).1 q).2.2 z hzx (by rw [hx, hz.2]; simp)
      rw [swap_io hx hz.2] at this
      exact absurd hg this
end
/-- A sum over a list, in any order. -/
theorem sumN_perm {O B : List Nat} (hp : O.Perm B) (g : Nat → Int) : sumN O.length (fun t => g (O.getD t 0)) = sumN B.length (fun t => g (B.getD t 0)) := by
  have key : ∀ L : List Nat, sumN L.length (fun t => g (L.getD t 0)) = (L.map g).foldr (· + ·) 0 := by
    intro L
    induction L with
    | nil => rfl
    | cons a L ih =>
      have : sumN (a :: L).length (fun t => g ((a :: L).getD t 0)) = g a + sumN L.length (fun t => g (L.getD t 0)) := by
        rw [List.length_cons, Nat.add_comm, sumN_split]
        simp [sumN, Nat.add_comm 1]
      rw [this, ih]
      rfl
  rw [key, key]
  induction hp with
  | nil => rfl
  | cons x _ ih => simp only [List.map_cons, List.foldr_cons]; rw [ih]
  | swap x y l => simp only [List.map_cons, List.foldr_cons]; omega
  | trans _ _ ih1 ih2 => rw [ih1, ih2]
end Go.SH
