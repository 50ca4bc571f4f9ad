/-
 An element to choose: of flats with it and without it no fewer of the greater rank. Conditions: none.
-/
import Derived.Test.YtlpikingpnenkaaLhG
set_option linter.unusedSimpArgs false
set_option linter.unusedVariables false
set_option linter.unusedSectionVars false
namespace Go.SH
open Go Go.AX
section
variable {r : Nat → Nat} (h : RkF r) {E : Nat} (hE : E < 2 ^ 8) (hs : Smp r E) {a b c c' d d' e e' : Nat}
include h hE hs
/-- Flats of rank 1 that go on alone: singles. -/
theorem RkF.sN_list {i : Nat} (hi : E.testBit i = true) {L : List Nat} (hL : ∀ x, E.testBit x = true → x ≠ i → Fl r E (2 ^ x ||| 2 ^ i) → x ∈ L) : sN r E i 1 ≤ L.length := by
 rw [← List.length_map (f := fun x => 2 ^ x)]
 refine nS_le_list fun G hG ⟨⟨a1, a2, a3⟩, a4⟩ => ?_
 have c1 := h.le (b := G) hG
 obtain ⟨x, hx⟩ := exists_bit (c := G) fun e => by rw [e, h.zero] at a4; omega
 have e : G = 2 ^ x := Inc.antisymm (fun y hy => by
  rw [testBit_pow, decide_eq_true_eq]
  refine Classical.byContradiction fun q => ?_
  have := (hs x (a1.1 x hx)).2 y (a1.1 y hy) q
  have := h.mono _ _ (inc_or (inc_pow hx) (inc_pow hy))
  omega) (inc_pow hx)
 subst e
 refine List.mem_map.2 ⟨x, hL x (a1.1 x hx) (fun e => ?_) a3, rfl⟩
 subst e; rw [a2] at hx; cases hx
theorem Cfg.choose (k : Cfg r E a b c c' d d' e e') : sN r E c 1 ≤ sN r E c 2 := by
 have nd := k.nd
 simp only [List.nodup_cons, List.mem_cons, List.not_mem_nil, not_or, or_false, not_false_eq_true, List.nodup_nil, and_true] at nd
 have hcE : E.testBit c = true := (k.cov c).2 (by simp)
 have g1 := k.gd1 h hE hs
 have g2 := (k.ee h).gd1 h hE hs
 have g3 := (k.dd h).gd1 h hE hs
 have g4 := ((k.dd h).ee h).gd1 h hE hs
 have lt : ∀ G, Gd r E c G → G < 256 := fun G hG => hG.1.1.lt hE
 have bt : ∀ L : List Nat, ∀ x, (pw L).testBit x = decide (x ∈ L) := fun L x => by rw [Bool.eq_iff_iff, pw_bit, decide_eq_true_eq]
 have la : r (pw [c', c, a]) = 2 ∨ r (pw [c', c, a]) ≠ 2 := Nat.decEq _ _ |>.em
 have lb : r (pw [c', c, b]) = 2 ∨ r (pw [c', c, b]) ≠ 2 := Nat.decEq _ _ |>.em
 -- not both
 have nb : r (pw [c', c, a]) = 2 → r (pw [c', c, b]) = 2 → False := fun q1 q2 => by
  have e1 : r (pw [c, a]) = 2 := k.rk5 h hE (L := [c, a]) (by simp; grind) (by simp)
  have e2 : r (pw [c, b]) = 2 := k.rk5 h hE (L := [c, b]) (by simp; grind) (by simp)
  have m := k.meet5 h hE (I := [c, a]) (J := [c, b]) (K := [c]) (x := c') (by simp) (by simp) (by simp; grind) (by omega) (by omega)
  have := k.two h hE hs (x := c') (y := c) (by simp) (by simp) (by grind)
  omega
 have key : ∀ L : List Nat, (L.map fun G => (G.testBit a, G.testBit b, G.testBit d, G.testBit e)).Nodup → (∀ G, G ∈ L → Gd r E c G) → L.length ≤ sN r E c 2 := fun L hn hg => nS_ge (of_mapS hn) fun G hG => ⟨lt G (hg G hG), hg G hG⟩
 -- one of them in a line with the pair
 have oneside : ∀ {a b : Nat}, Cfg r E a b c c' d d' e e' → r (pw [c', c, a]) = 2 → r (pw [c', c, b]) ≠ 2 → sN r E c 1 ≤ sN r E c 2 := by
  intro a b k qa qb
  have nd := k.nd
  simp only [List.nodup_cons, List.mem_cons, List.not_mem_nil, not_or, or_false, not_false_eq_true, List.nodup_nil, and_true] at nd
  obtain ⟨p1, p2, p3, p4, p5⟩ := k.ab.gd2 h hE hs qb
  obtain ⟨p6, p7, p8, p9, p10⟩ := k.ab.de.gd2 h hE hs qb
  have up : sN r E c 1 ≤ [b, d, d', e, e'].length := h.sN_list hE hs hcE fun x hx hxc hf => by
   have hx2 := (k.cov x).1 hx
   simp only [List.mem_cons, List.not_mem_nil, or_false] at hx2 ⊢
   have na : x ≠ a := fun e1 => by
    subst e1
    refine hf.2 c' ((k.cov c').2 (by simp)) (bit_false.2 fun w => ?_) ?_
    ·rcases or_bit.1 w with q | q
     ·rw [testBit_pow, decide_eq_true_eq] at q; grind
     ·grind
    ·have e1 : r (pw [c, x]) = 2 := k.rk5 h hE (L := [c, x]) (by simp; grind) (by simp)
     simp only [pw, Nat.zero_or] at qa e1
     omega
   have nc : x ≠ c' := fun e1 => by
    subst e1
    refine hf.2 a ((k.cov a).2 (by simp)) (bit_false.2 fun w => ?_) ?_
    ·rcases or_bit.1 w with q | q
     ·rw [testBit_pow, decide_eq_true_eq] at q; grind
     ·grind
    ·have e1 := (k.two h hE hs (x := c) (y := x) (by simp) (by simp) (by grind)).1
     have e2 : pw [x, c, a] = 2 ^ x ||| 2 ^ c ||| 2 ^ a := pw_ext (L := [x, c, a]) (M := [a, c, x]) (by simp; grind) |>.trans (by simp only [pw, Nat.zero_or])
     rw [e2] at qa
     simp only [pw, Nat.zero_or] at e1
     omega
   grind
  refine Nat.le_trans up (Nat.le_trans (show 5 ≤ 6 by omega) (nS_ge (L := [pw [e, d], pw [e', d], pw [e, d'], pw [e', d'], clE r E (pw [d, b]), clE r E (pw [e, b])]) (of_mapS (f := fun G => (G.testBit a, G.testBit b, G.testBit d, G.testBit e)) ?_) ?_))
  ·simp only [List.map_cons, List.map_nil, bt, p2, p3, p4, p5, p7, p8, p9, p10, List.mem_cons, List.not_mem_nil, or_false]
   simp; grind
  ·intro G hG
   simp only [List.mem_cons, List.not_mem_nil, or_false] at hG
   have : Gd r E c G := by rcases hG with rfl | rfl | rfl | rfl | rfl | rfl <;> assumption
   exact ⟨lt G this, this⟩
 rcases la with qa | qa
 ·rcases lb with qb | qb
  ·exact (nb qa qb).elim
  ·exact oneside k qa qb
 ·rcases lb with qb | qb
  ·exact oneside k.ab qb qa
  ·obtain ⟨p1, p2, p3, p4, p5⟩ := k.ab.gd2 h hE hs qb
   obtain ⟨p6, p7, p8, p9, p10⟩ := k.ab.de.gd2 h hE hs qb
   obtain ⟨u1, u2, u3, u4, u5⟩ := k.gd2 h hE hs qa
   obtain ⟨u6, u7, u8, u9, u10⟩ := k.de.gd2 h hE hs qa
   have up : sN r E c 1 ≤ [a, b, c', d, d', e, e'].length := h.sN_list hE hs hcE fun x hx hxc hf => by
    have hx2 := (k.cov x).1 hx
    simp only [List.mem_cons, List.not_mem_nil, or_false] at hx2 ⊢
    grind
   refine Nat.le_trans up (Nat.le_trans (show 7 ≤ 8 by omega) (nS_ge (L := [pw [e, d], pw [e', d], pw [e, d'], pw [e', d'], clE r E (pw [d, b]), clE r E (pw [e, b]), clE r E (pw [d, a]), clE r E (pw [e, a])]) (of_mapS (f := fun G => (G.testBit a, G.testBit b, G.testBit d, G.testBit e)) ?_) ?_))
   ·simp only [List.map_cons, List.map_nil, bt, p2, p3, p4, p5, p7, p8, p9, p10, u2, u3, u4, u5, u7, u8, u9, u10, List.mem_cons, List.not_mem_nil, or_false]
    simp; grind
   ·intro G hG
    simp only [List.mem_cons, List.not_mem_nil, or_false] at hG
    have : Gd r E c G := by rcases hG with rfl | rfl | rfl | rfl | rfl | rfl | rfl | rfl <;> assumption
    exact ⟨lt G this, this⟩
end
end Go.SH
