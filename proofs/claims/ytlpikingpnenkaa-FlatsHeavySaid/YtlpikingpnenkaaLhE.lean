/-
 The one case where an element must be chosen: three pairs over a line. Conditions: none.
-/
import Derived.Test.YtlpikingpnenkaaLhD
set_option linter.unusedSimpArgs false
set_option linter.unusedVariables false
set_option linter.unusedSectionVars false
namespace Go.SH
open Go Go.AX
/-- A line a, b, and three pairs, each in a plane with it. -/
structure Cfg (r : Nat → Nat) (E a b c c' d d' e e' : Nat) : Prop where
 nd : [a, b, c, c', d, d', e, e'].Nodup
 cov : ∀ j, E.testBit j = true ↔ j ∈ [a, b, c, c', d, d', e, e']
 ind : r (2 ^ a ||| 2 ^ b ||| 2 ^ c ||| 2 ^ d ||| 2 ^ e) = 5
 fl : Fl r E (2 ^ a ||| 2 ^ b)
 pc : r (2 ^ a ||| 2 ^ b ||| 2 ^ c ||| 2 ^ c') = 3
 pd : r (2 ^ a ||| 2 ^ b ||| 2 ^ d ||| 2 ^ d') = 3
 pe : r (2 ^ a ||| 2 ^ b ||| 2 ^ e ||| 2 ^ e') = 3
theorem of_mapS {α : Type} {f : Nat → α} {L : List Nat} (h : (L.map f).Nodup) : L.Nodup := (List.pairwise_map.1 h).imp fun q e => q (congrArg f e)
section
variable {r : Nat → Nat} (h : RkF r) {E : Nat} (hE : E < 2 ^ 8)
include h
theorem RkF.ind_sub {Z A : Nat} (hZ : Z < 2 ^ 8) (hr : r Z = cnt 8 Z) (hA : Inc A Z) : r A = cnt 8 A := by
 have hAl := hA.lt hZ
 have c1 := cnt_split 8 Z A
 have e1 : Z &&& A = A := by rw [Nat.and_comm]; exact (sub_iff_and A Z).2 hA
 rw [e1] at c1
 have c2 := h.add A (dif Z A) (dif_lt hZ)
 have c3 := h.mono Z (A ||| dif Z A) fun j hj => by
  rw [Nat.testBit_or, testBit_dif, hj]; cases A.testBit j <;> rfl
 have c4 := h.le hAl
 omega
/-- What lies in two spans of parts of an independent set lies in the span of what the parts have together. -/
theorem RkF.meet {Z I J x : Nat} (hZ : Z < 2 ^ 8) (hr : r Z = cnt 8 Z) (hI : Inc I Z) (hJ : Inc J Z) (h1 : r (I ||| 2 ^ x) = r I) (h2 : r (J ||| 2 ^ x) = r J) : r ((I &&& J) ||| 2 ^ x) = r (I &&& J) := by
 have k1 := h.sub (I ||| 2 ^ x) (J ||| 2 ^ x)
 have k2 := h.mono (I ||| J) (I ||| 2 ^ x ||| (J ||| 2 ^ x)) (inc_or ((inc_or_l _ _).trans (inc_or_l _ _)) ((inc_or_l _ _).trans (inc_or_r _ _)))
 have k3 := h.mono ((I &&& J) ||| 2 ^ x) ((I ||| 2 ^ x) &&& (J ||| 2 ^ x)) (inc_or (inc_and ((inc_and_l _ _).trans (inc_or_l _ _)) ((inc_and_r _ _).trans (inc_or_l _ _))) (inc_and (inc_or_r _ _) (inc_or_r _ _)))
 have k4 := h.mono (I &&& J) ((I &&& J) ||| 2 ^ x) (inc_or_l _ _)
 have s1 := h.ind_sub hZ hr hI
 have s2 := h.ind_sub hZ hr hJ
 have s3 := h.ind_sub hZ hr ((inc_and_l I J).trans hI)
 have s4 := h.ind_sub hZ hr (inc_or hI hJ)
 have s5 := cnt_or_and 8 I J
 omega
end
section
variable {r : Nat → Nat} (h : RkF r) {E : Nat} (hE : E < 2 ^ 8) {a b c c' d d' e e' : Nat}
theorem Cfg.ab (k : Cfg r E a b c c' d d' e e') : Cfg r E b a c c' d d' e e' := by
 have p : [a, b, c, c', d, d', e, e'].Perm [b, a, c, c', d, d', e, e'] := List.Perm.swap _ _ _
 refine ⟨p.nodup_iff.1 k.nd, fun j => by rw [k.cov]; exact p.mem_iff, ?_, ?_, ?_, ?_, ?_⟩
 ·rw [Nat.or_comm (2 ^ b)]; exact k.ind
 ·rw [Nat.or_comm (2 ^ b)]; exact k.fl
 ·rw [Nat.or_comm (2 ^ b)]; exact k.pc
 ·rw [Nat.or_comm (2 ^ b)]; exact k.pd
 ·rw [Nat.or_comm (2 ^ b)]; exact k.pe
theorem Cfg.de (k : Cfg r E a b c c' d d' e e') : Cfg r E a b c c' e e' d d' := by
 have p : [a, b, c, c', d, d', e, e'].Perm [a, b, c, c', e, e', d, d'] := ((((List.perm_append_comm (l₁ := [d, d']) (l₂ := [e, e'])).cons c').cons c).cons b).cons a
 refine ⟨p.nodup_iff.1 k.nd, fun j => by rw [k.cov]; exact p.mem_iff, ?_, k.fl, k.pc, k.pe, k.pd⟩
 rw [or_swap]; exact k.ind
include h in
theorem Cfg.dd (k : Cfg r E a b c c' d d' e e') : Cfg r E a b c c' d' d e e' := by
 have p : [a, b, c, c', d, d', e, e'].Perm [a, b, c, c', d', d, e, e'] := ((((List.Perm.swap d' d [e, e']).cons c').cons c).cons b).cons a
 have nd := k.nd
 simp only [List.nodup_cons, List.mem_cons, List.not_mem_nil, not_or, or_false, not_false_eq_true, List.nodup_nil, and_true] at nd
 have hd' : E.testBit d' = true := (k.cov d').2 (by simp)
 have hn : (2 ^ a ||| 2 ^ b).testBit d' = false := bit_false.2 fun w => by
  rcases or_bit.1 w with q | q
  ·rw [testBit_pow, decide_eq_true_eq] at q; simp_all
  ·simp_all
 have k1 := h.up1 (k.fl.2 d' hd' hn)
 have k2 := h.step (2 ^ a) b
 have k3 := h.step 0 a
 rw [Nat.zero_or, h.zero] at k3
 have k4 : r (2 ^ a ||| 2 ^ b ||| 2 ^ d' ||| 2 ^ d) = 3 := by rw [or_swap]; exact k.pd
 have k5 := h.mono (2 ^ a ||| 2 ^ b ||| 2 ^ d') _ (inc_or_l _ (2 ^ d))
 refine ⟨p.nodup_iff.1 k.nd, fun j => by rw [k.cov]; exact p.mem_iff, ?_, k.fl, k.pc, k4, k.pe⟩
 -- d' and a, b span d
 have k7 := k.ind
 have k8 := h.step (2 ^ a ||| 2 ^ b) c
 have k9 := h.step (2 ^ a ||| 2 ^ b ||| 2 ^ c) d
 have k10 := h.step (2 ^ a ||| 2 ^ b ||| 2 ^ c ||| 2 ^ d) e
 have k6 : r (2 ^ a ||| 2 ^ b ||| 2 ^ d' ||| 2 ^ d) = r (2 ^ a ||| 2 ^ b ||| 2 ^ d') := by omega
 have k11 := h.stay (t := 2 ^ a ||| 2 ^ b ||| 2 ^ c ||| 2 ^ d' ||| 2 ^ e) (inc_or (inc_or ((inc_or_l _ _).trans ((inc_or_l _ _).trans ((inc_or_l _ _).trans (inc_or_l _ _)))) ((inc_or_r _ _).trans ((inc_or_l _ _).trans ((inc_or_l _ _).trans (inc_or_l _ _))))) ((inc_or_r _ _).trans (inc_or_l _ _))) k6
 have k12 := h.mono (2 ^ a ||| 2 ^ b ||| 2 ^ c ||| 2 ^ d ||| 2 ^ e) (2 ^ a ||| 2 ^ b ||| 2 ^ c ||| 2 ^ d' ||| 2 ^ e ||| 2 ^ d) (inc_or (inc_or ((inc_or_l _ _).trans ((inc_or_l _ _).trans (inc_or_l _ _))) (inc_or_r _ _)) ((inc_or_r _ _).trans (inc_or_l _ _)))
 have k13 := h.step (2 ^ a ||| 2 ^ b ||| 2 ^ c ||| 2 ^ d') e
 have k14 := h.step (2 ^ a ||| 2 ^ b ||| 2 ^ c) d'
 omega
include h in
theorem Cfg.ee (k : Cfg r E a b c c' d d' e e') : Cfg r E a b c c' d d' e' e := ((k.de).dd h).de
include hE in
theorem Cfg.lt8 (k : Cfg r E a b c c' d d' e e') {x : Nat} (hx : x ∈ [a, b, c, c', d, d', e, e']) : x < 8 := bit_lt hE ((k.cov x).2 hx)
/-- The independent five. -/
def fiv5 (a b c d e : Nat) : Nat := 2 ^ a ||| 2 ^ b ||| 2 ^ c ||| 2 ^ d ||| 2 ^ e
include h hE in
theorem Cfg.five (k : Cfg r E a b c c' d d' e e') : fiv5 a b c d e < 2 ^ 8 ∧ r (fiv5 a b c d e) = cnt 8 (fiv5 a b c d e) := by
 have nd := k.nd
 simp only [List.nodup_cons, List.mem_cons, List.not_mem_nil, not_or, or_false, not_false_eq_true, List.nodup_nil, and_true] at nd
 have l := fun x hx => k.lt8 hE (x := x) hx
 have la := l a (by simp)
 have lb := l b (by simp)
 have lc := l c (by simp)
 have ld := l d (by simp)
 have le := l e (by simp)
 refine ⟨or_lt (or_lt (or_lt (or_lt (pow_lt la) (pow_lt lb)) (pow_lt lc)) (pow_lt ld)) (pow_lt le), ?_⟩
 have c1 := cnt_add (m := 8) (s := 0) la (by simp)
 rw [Nat.zero_or, cnt_zero] at c1
 have bits : ∀ x y : Nat, x ≠ y → (2 ^ x).testBit y = false := fun x y hxy => by rw [testBit_pow]; simp [hxy]
 have c2 := cnt_add (m := 8) (s := 2 ^ a) lb (bits _ _ (by simp_all))
 have c3 := cnt_add (m := 8) (s := 2 ^ a ||| 2 ^ b) lc (by rw [Nat.testBit_or, bits _ _ (by simp_all), bits _ _ (by simp_all)]; rfl)
 have c4 := cnt_add (m := 8) (s := 2 ^ a ||| 2 ^ b ||| 2 ^ c) ld (by rw [Nat.testBit_or, Nat.testBit_or, bits _ _ (by simp_all), bits _ _ (by simp_all), bits _ _ (by simp_all)]; rfl)
 have c5 := cnt_add (m := 8) (s := 2 ^ a ||| 2 ^ b ||| 2 ^ c ||| 2 ^ d) le (by rw [Nat.testBit_or, Nat.testBit_or, Nat.testBit_or, bits _ _ (by simp_all), bits _ _ (by simp_all), bits _ _ (by simp_all), bits _ _ (by simp_all)]; rfl)
 have := k.ind
 unfold fiv5
 omega
end
end Go.SH
