/-
 Three pairs over a line: flats with one of the six elements. Conditions: none.
-/
import Derived.Test.YtlpikingpnenkaaLhE
set_option linter.unusedSimpArgs false
set_option linter.unusedVariables false
set_option linter.unusedSectionVars false
namespace Go.SH
open Go Go.AX
/-- A list of elements as a set. -/
def pw : List Nat → Nat
 | [] => 0
 | x :: L => pw L ||| 2 ^ x
theorem pw_bit {j : Nat} : ∀ {L : List Nat}, (pw L).testBit j = true ↔ j ∈ L
 | [] => by simp [pw]
 | x :: L => by
  show (pw L ||| 2 ^ x).testBit j = true ↔ _
  rw [or_bit, pw_bit (L := L), List.mem_cons]
  exact ⟨fun w => w.elim .inr fun e => .inl e.symm, fun w => w.elim (fun e => .inr e.symm) .inl⟩
theorem pw_cnt : ∀ {L : List Nat}, L.Nodup → (∀ x, x ∈ L → x < 8) → pw L < 2 ^ 8 ∧ cnt 8 (pw L) = L.length
 | [], _, _ => ⟨by decide, cnt_zero 8⟩
 | x :: L, hn, hl => by
  obtain ⟨h1, h2⟩ := List.nodup_cons.1 hn
  obtain ⟨a1, a2⟩ := pw_cnt h2 fun y hy => hl y (List.mem_cons_of_mem _ hy)
  have hx := hl x List.mem_cons_self
  refine ⟨or_lt a1 (pow_lt hx), ?_⟩
  have := cnt_add (m := 8) (s := pw L) hx (bit_false.2 fun w => h1 (pw_bit.1 w))
  show cnt 8 (pw L ||| 2 ^ x) = _
  rw [List.length_cons]; omega
theorem pw_inc {L M : List Nat} (h : ∀ x, x ∈ L → x ∈ M) : Inc (pw L) (pw M) := fun j hj => pw_bit.2 (h j (pw_bit.1 hj))
theorem pw_ext {L M : List Nat} (h : ∀ x, x ∈ L ↔ x ∈ M) : pw L = pw M := Inc.antisymm (pw_inc fun x => (h x).1) (pw_inc fun x => (h x).2)
section
variable {r : Nat → Nat} (h : RkF r) {E : Nat} (hE : E < 2 ^ 8) (hs : Smp r E) {a b c c' d d' e e' : Nat} (k : Cfg r E a b c c' d d' e e')
include h hE k
theorem Cfg.rk5 {L : List Nat} (hn : L.Nodup) (hl : ∀ x, x ∈ L → x ∈ [a, b, c, d, e]) : r (pw L) = L.length := by
 obtain ⟨f1, f2⟩ := k.five h hE
 have e5 : fiv5 a b c d e = pw [e, d, c, b, a] := by unfold fiv5; simp only [pw, Nat.zero_or]
 have hm : ∀ x, x ∈ L → x ∈ [e, d, c, b, a] := fun x hx => by have := hl x hx; simp at this ⊢; grind
 have hi : Inc (pw L) (fiv5 a b c d e) := by rw [e5]; exact pw_inc hm
 rw [h.ind_sub f1 f2 hi]
 refine (pw_cnt hn fun x hx => k.lt8 hE ?_).2
 have := hl x hx
 simp at this ⊢; grind
theorem Cfg.meet5 {I J K : List Nat} {x : Nat} (hI : ∀ x, x ∈ I → x ∈ [a, b, c, d, e]) (hJ : ∀ x, x ∈ J → x ∈ [a, b, c, d, e]) (hK : ∀ x, x ∈ K ↔ x ∈ I ∧ x ∈ J) (h1 : r (pw (x :: I)) = r (pw I)) (h2 : r (pw (x :: J)) = r (pw J)) : r (pw (x :: K)) = r (pw K) := by
 obtain ⟨f1, f2⟩ := k.five h hE
 have e5 : fiv5 a b c d e = pw [e, d, c, b, a] := by unfold fiv5; simp only [pw, Nat.zero_or]
 have hm : ∀ L : List Nat, (∀ x, x ∈ L → x ∈ [a, b, c, d, e]) → Inc (pw L) (fiv5 a b c d e) := fun L hl => by
  rw [e5]
  exact pw_inc fun x hx => by have := hl x hx; simp at this ⊢; grind
 have eK : pw K = pw I &&& pw J := bx fun j => by
  rw [Bool.eq_iff_iff, Nat.testBit_and, Bool.and_eq_true, pw_bit, pw_bit, pw_bit]; exact hK j
 show r (pw K ||| 2 ^ x) = _
 rw [eK]
 exact h.meet f1 f2 (hm I hI) (hm J hJ) h1 h2
theorem Cfg.span : r (pw [c', c, b, a]) = r (pw [c, b, a]) ∧ r (pw [d', d, b, a]) = r (pw [d, b, a]) ∧ r (pw [e', e, b, a]) = r (pw [e, b, a]) := by
 have nd := k.nd
 simp only [List.nodup_cons, List.mem_cons, List.not_mem_nil, not_or, or_false, not_false_eq_true, List.nodup_nil, and_true] at nd
 have r3 : ∀ x, x ∈ [c, d, e] → r (pw [x, b, a]) = 3 := fun x hx => by
  refine k.rk5 h hE (L := [x, b, a]) ?_ ?_
  ·simp at hx
   rcases hx with rfl | rfl | rfl <;> simp <;> grind
  ·simp at hx ⊢; grind
 rw [r3 c (by simp), r3 d (by simp), r3 e (by simp)]
 simp only [pw, Nat.zero_or]
 exact ⟨k.pc, k.pd, k.pe⟩
include hs
theorem Cfg.two {x y : Nat} (hx : x ∈ [a, b, c, c', d, d', e, e']) (hy : y ∈ [a, b, c, c', d, d', e, e']) (hxy : x ≠ y) : r (pw [x, y]) = 2 ∧ r (pw [y]) = 1 := by
 have h1 := hs y ((k.cov y).2 hy)
 simp only [pw, Nat.zero_or]
 exact ⟨h1.2 x ((k.cov x).2 hx) (Ne.symm hxy), h1.1⟩
/-- One of each pair: a plane. -/
theorem Cfg.plane : Fl r E (pw [e, d, c]) := by
 have nd := k.nd
 simp only [List.nodup_cons, List.mem_cons, List.not_mem_nil, not_or, or_false, not_false_eq_true, List.nodup_nil, and_true] at nd
 obtain ⟨s1, s2, s3⟩ := k.span h hE
 refine ⟨fun j hj => (k.cov j).2 ?_, fun x hx hn e1 => ?_⟩
 ·have := pw_bit.1 hj
  simp at this ⊢; grind
 have e1 : r (pw [x, e, d, c]) = r (pw [e, d, c]) := e1
 have e3 : r (pw [e, d, c]) = 3 := k.rk5 h hE (L := [e, d, c]) (by simp; grind) (by simp)
 have hn2 : x ∉ [e, d, c] := fun w => bit_false.1 hn (pw_bit.2 w)
 have hx2 := (k.cov x).1 hx
 simp only [List.mem_cons, List.not_mem_nil, or_false, not_or] at hn2 hx2
 have old : ∀ y, y = a ∨ y = b → r (pw [y, e, d, c]) = 4 := fun y hy => k.rk5 h hE (L := [y, e, d, c]) (by rcases hy with rfl | rfl <;> simp <;> grind) (by rcases hy with rfl | rfl <;> simp)
 rcases hx2 with rfl | rfl | rfl | rfl | rfl | rfl | rfl | rfl
 ·have := old x (.inl rfl); omega
 ·have := old x (.inr rfl); omega
 ·exact hn2.2.2 rfl
 ·have m := k.meet5 h hE (I := [e, d, c]) (J := [c, b, a]) (K := [c]) (by simp) (by simp) (by simp; grind) e1 s1
  have := k.two h hE hs (x := x) (y := c) (by simp) (by simp) (by omega)
  omega
 ·exact hn2.2.1 rfl
 ·have m := k.meet5 h hE (I := [e, d, c]) (J := [d, b, a]) (K := [d]) (by simp) (by simp) (by simp; grind) e1 s2
  have := k.two h hE hs (x := x) (y := d) (by simp) (by simp) (by omega)
  omega
 ·exact hn2.1 rfl
 ·have m := k.meet5 h hE (I := [e, d, c]) (J := [e, b, a]) (K := [e]) (by simp) (by simp) (by simp; grind) e1 s3
  have := k.two h hE hs (x := x) (y := e) (by simp) (by simp) (by omega)
  omega
/-- What is told of a set without c. -/
def Gd (r : Nat → Nat) (E c G : Nat) : Prop := (Fl r E G ∧ G.testBit c = false ∧ Fl r E (G ||| 2 ^ c)) ∧ r G = 2
theorem Cfg.gd1 : Gd r E c (pw [e, d]) := by
 have nd := k.nd
 simp only [List.nodup_cons, List.mem_cons, List.not_mem_nil, not_or, or_false, not_false_eq_true, List.nodup_nil, and_true] at nd
 have hp := k.plane h hE hs
 have e3 : r (pw [e, d, c]) = 3 := k.rk5 h hE (L := [e, d, c]) (by simp; grind) (by simp)
 have c3 := (pw_cnt (L := [e, d, c]) (by simp; grind) fun x hx => k.lt8 hE (by simp at hx ⊢; grind)).2
 have ff : FF r E (pw [e, d, c]) := ⟨hp, by rw [e3, c3]; rfl⟩
 have f2 := h.ff_sub hE ff (A := pw [e, d]) (pw_inc (by simp +contextual))
 refine ⟨⟨f2.1, bit_false.2 fun w => ?_, ?_⟩, k.rk5 h hE (L := [e, d]) (by simp; grind) (by simp)⟩
 ·have := pw_bit.1 w; simp at this; grind
 ·have : pw [e, d] ||| 2 ^ c = pw [e, d, c] := pw_ext (L := [c, e, d]) (by simp; grind)
  rw [this]; exact hp
/-- A line through one of the first two. -/
theorem Cfg.gd2 (hc : r (pw [c', c, a]) ≠ 2) : Gd r E c (clE r E (pw [d, a])) ∧ (clE r E (pw [d, a])).testBit a = true ∧ (clE r E (pw [d, a])).testBit b = false ∧ (clE r E (pw [d, a])).testBit d = true ∧ (clE r E (pw [d, a])).testBit e = false := by
 have nd := k.nd
 simp only [List.nodup_cons, List.mem_cons, List.not_mem_nil, not_or, or_false, not_false_eq_true, List.nodup_nil, and_true] at nd
 obtain ⟨s1, s2, s3⟩ := k.span h hE
 have hA : Inc (pw [d, a]) E := fun j hj => (k.cov j).2 (by have := pw_bit.1 hj; simp at this ⊢; grind)
 have hin := clE_inc (r := r) hE hA
 have r2 : r (pw [d, a]) = 2 := k.rk5 h hE (L := [d, a]) (by simp; grind) (by simp)
 have out : ∀ y, y = b ∨ y = c ∨ y = e → (clE r E (pw [d, a])).testBit y = false := fun y hy => bit_false.2 fun w => by
  have w2 := ((clE_bit hE).1 w).2
  have w3 : r (pw [y, d, a]) = 3 := k.rk5 h hE (L := [y, d, a]) (by rcases hy with rfl | rfl | rfl <;> simp <;> grind) (by rcases hy with rfl | rfl | rfl <;> simp)
  have w4 : r (pw [y, d, a]) = r (pw [d, a]) := w2
  omega
 refine ⟨⟨⟨h.cl_fl hE hA, out c (.inr (.inl rfl)), inc_or (clE_E hE _) (inc_pow ((k.cov c).2 (by simp))), fun x hx hn e1 => ?_⟩, by rw [h.cl_rk hE hA, r2]⟩, hin a (pw_bit.2 (by simp)), out b (.inl rfl), hin d (pw_bit.2 (by simp)), out e (.inr (.inr rfl))⟩
 have r3 : r (pw [c, d, a]) = 3 := k.rk5 h hE (L := [c, d, a]) (by simp; grind) (by simp)
 have q1 := h.step (clE r E (pw [d, a])) c
 rw [h.cl_rk hE hA, r2] at q1
 have q2 := h.mono (pw [x, c, d, a]) (clE r E (pw [d, a]) ||| 2 ^ c ||| 2 ^ x) (inc_or (inc_or (hin.trans ((inc_or_l _ _).trans (inc_or_l _ _))) ((inc_or_r _ _).trans (inc_or_l _ _))) (inc_or_r _ _))
 have q3 := h.mono (pw [c, d, a]) (pw [x, c, d, a]) (pw_inc (by simp +contextual))
 have e2 : r (pw [x, c, d, a]) = r (pw [c, d, a]) := by omega
 have hx2 := (k.cov x).1 hx
 have hxc : x ≠ c := fun w => bit_false.1 hn (or_bit.2 (.inr w.symm))
 have hxG : ¬ (clE r E (pw [d, a])).testBit x = true := fun w => bit_false.1 hn (or_bit.2 (.inl w))
 have hxa : x ≠ a := fun w => hxG (by rw [w]; exact hin a (pw_bit.2 (by simp)))
 have hxd : x ≠ d := fun w => hxG (by rw [w]; exact hin d (pw_bit.2 (by simp)))
 simp only [List.mem_cons, List.not_mem_nil, or_false] at hx2
 have old : ∀ y, y = b ∨ y = e → r (pw [y, c, d, a]) = 4 := fun y hy => k.rk5 h hE (L := [y, c, d, a]) (by rcases hy with rfl | rfl <;> simp <;> grind) (by rcases hy with rfl | rfl <;> simp)
 rcases hx2 with rfl | rfl | rfl | rfl | rfl | rfl | rfl | rfl
 ·exact hxa rfl
 ·have := old x (.inl rfl); omega
 ·exact hxc rfl
 ·have m := k.meet5 h hE (I := [c, d, a]) (J := [c, b, a]) (K := [c, a]) (by simp) (by simp) (by simp; grind) e2 s1
  have : r (pw [c, a]) = 2 := k.rk5 h hE (L := [c, a]) (by simp; grind) (by simp)
  exact hc (m.trans this)
 ·exact hxd rfl
 ·have m := k.meet5 h hE (I := [c, d, a]) (J := [d, b, a]) (K := [d, a]) (by simp) (by simp) (by simp; grind) e2 s2
  exact hxG ((clE_bit hE).2 ⟨hx, m⟩)
 ·have := old x (.inr rfl); omega
 ·have m := k.meet5 h hE (I := [c, d, a]) (J := [e, b, a]) (K := [a]) (by simp) (by simp) (by simp; grind) e2 s3
  have := k.two h hE hs (x := x) (y := a) (by simp) (by simp) (by omega)
  omega
end
end Go.SH
