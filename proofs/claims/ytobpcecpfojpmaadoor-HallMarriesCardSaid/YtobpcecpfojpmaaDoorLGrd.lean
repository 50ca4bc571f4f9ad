/-
  EDMONDS: sets that are free in two ways; exchanges along a shortest way. EDMONDS: what is reached from the sources by exchanges, the first ones first; a way back is a shortest one. What meet.grown computes: a set that is larger by one and free in both, or that there is none. What meet.Common computes.  Conditions: none.
-/
import Derived.Test.YtobpcecpfojpmaaDoorLRk
import Derived.Test.YtobpcecpfojpmaaDoorLSt
import Derived.Test.YtobpcecpfojpmaaDoorLRj
import Derived.Test.YtobpcecpfojpmaaDoorLA
import Derived.Test.YtobpcecpfojpmaaDoorSpmeet

set_option linter.unusedSimpArgs false
set_option linter.unusedVariables false
namespace Go.SH
open Go Go.AX

theorem RkF.same {r : Nat → Nat} (h : RkF r) {A C : Nat} (hA : Inc A C) (e : r A = r C) (i : Nat) : r (A ||| 2 ^ i) = r (C ||| 2 ^ i) := by
  have h1 := h.sub (A ||| 2 ^ i) C
  have e1 : A ||| 2 ^ i ||| C = C ||| 2 ^ i := by rw [Nat.or_assoc, Nat.or_comm (2 ^ i), ← Nat.or_assoc, (or_eq_iff A C).2 hA]
  have h2 := h.mono A ((A ||| 2 ^ i) &&& C) (inc_and (inc_or_l _ _) hA)
  have h3 := h.mono (A ||| 2 ^ i) (C ||| 2 ^ i) (inc_or (hA.trans (inc_or_l _ _)) (inc_or_r _ _))
  rw [e1] at h1
  omega
theorem swap_xor {I q p : Nat} (hq : I.testBit q = true) (hp : I.testBit p = false) : I ^^^ 2 ^ q ^^^ 2 ^ p = dif I (2 ^ q) ||| 2 ^ p := bx fun j => by
  rw [Nat.testBit_xor, Nat.testBit_xor, Nat.testBit_or, testBit_dif, testBit_pow, testBit_pow]
  rcases Classical.em (p = j) with c | c
  · subst c
    have : ¬ q = p := fun z => by subst z; rw [hq] at hp; cases hp
    simp [hp, this]
  · rcases Classical.em (q = j) with d | d
    · subst d; simp [hq, c]
    · simp [c, d]
theorem swap_cnt {I q p : Nat} (hI : I < 2 ^ 8) (hp8 : p < 8) (hq : I.testBit q = true) (hp : I.testBit p = false) : cnt 8 (dif I (2 ^ q) ||| 2 ^ p) = cnt 8 I := by
  have hxy : (dif I (2 ^ q)).testBit p = false := by rw [testBit_dif, hp]; rfl
  rw [cnt_add hp8 hxy, cnt_dif hI hq]
/-- One element less of a free set. -/
theorem RkF.less {r : Nat → Nat} (h : RkF r) {I q : Nat} (hI : I < 2 ^ 8) (hX : r I = cnt 8 I) (hq : I.testBit q = true) : r (dif I (2 ^ q)) + 1 = cnt 8 I := by
  have h1 := h.step (dif I (2 ^ q)) q
  rw [dif_or hq] at h1
  have h2 := h.le (b := dif I (2 ^ q)) (dif_lt (n := 8) hI)
  have h3 := cnt_dif hI hq
  omega
def tog (L : List (Nat × Nat)) (I : Nat) : Nat := L.foldl (fun I z => I ^^^ 2 ^ z.1 ^^^ 2 ^ z.2) I
theorem exch {r : Nat → Nat} (h : RkF r) {s : Nat} (hs : s < 2 ^ 8) (hX : r s = cnt 8 s) : ∀ (L : List (Nat × Nat)) (I : Nat), I < 2 ^ 8 → r I = cnt 8 s → cnt 8 I = cnt 8 s → (∀ e, r (I ||| 2 ^ e) = r (s ||| 2 ^ e)) →
    (∀ z, z ∈ L → z.1 < 8 ∧ z.2 < 8 ∧ I.testBit z.1 = true ∧ I.testBit z.2 = false ∧ s.testBit z.1 = true ∧ s.testBit z.2 = false ∧ r (dif s (2 ^ z.1) ||| 2 ^ z.2) = cnt 8 s ∧ r (s ||| 2 ^ z.2) = cnt 8 s) →
    (∀ z, z ∈ L → ∀ e, r (dif I (2 ^ z.1) ||| 2 ^ e) = r (dif s (2 ^ z.1) ||| 2 ^ e)) →
    L.Pairwise (fun a b => a.1 ≠ b.1 ∧ a.2 ≠ b.2 ∧ r (dif s (2 ^ b.1) ||| 2 ^ a.2) ≠ cnt 8 s) →
    tog L I < 2 ^ 8 ∧ r (tog L I) = cnt 8 s ∧ cnt 8 (tog L I) = cnt 8 s ∧ (∀ e, r (tog L I ||| 2 ^ e) = r (s ||| 2 ^ e)) ∧ ∀ e, (∀ z, z ∈ L → z.1 ≠ e ∧ z.2 ≠ e) → (tog L I).testBit e = I.testBit e
  | [], I, h1, h2, h3, h4, _, _, _ => ⟨h1, h2, h3, h4, fun _ _ => rfl⟩
  | (q, p) :: L, I, h1, h2, h3, h4, hz, hb, hp => by
    obtain ⟨q8, p8, Iq, Ip, sq, sp, x1, x2⟩ := hz (q, p) (List.mem_cons_self ..)
    obtain ⟨hp1, hp2⟩ := List.pairwise_cons.1 hp
    simp only at q8 p8 Iq Ip sq sp x1 x2
    have e1 : tog ((q, p) :: L) I = tog L (dif I (2 ^ q) ||| 2 ^ p) := by
      rw [← swap_xor Iq Ip]; rfl
    have lt' : dif I (2 ^ q) ||| 2 ^ p < 2 ^ 8 := or_lt (dif_lt (n := 8) h1) (pow_lt p8)
    have r' : r (dif I (2 ^ q) ||| 2 ^ p) = cnt 8 s := by rw [hb (q, p) (List.mem_cons_self ..) p]; exact x1
    have c' : cnt 8 (dif I (2 ^ q) ||| 2 ^ p) = cnt 8 s := by rw [swap_cnt h1 p8 Iq Ip, h3]
    have bit' : ∀ e, (dif I (2 ^ q) ||| 2 ^ p).testBit e = ((I.testBit e && !decide (q = e)) || decide (p = e)) := fun e => by
      rw [Nat.testBit_or, testBit_dif, testBit_pow, testBit_pow]
    have cl' : ∀ e, r ((dif I (2 ^ q) ||| 2 ^ p) ||| 2 ^ e) = r (s ||| 2 ^ e) := fun e => by
      have k1 := h.same (inc_or_l I (2 ^ p)) (by rw [h2, h4 p, x2]) e
      have k2 := h.same (A := dif I (2 ^ q) ||| 2 ^ p) (C := I ||| 2 ^ p) (inc_or ((inc_dif _ _).trans (inc_or_l _ _)) (inc_or_r _ _)) (by rw [r', h4 p, x2]) e
      rw [k2, ← k1, h4 e]
    obtain ⟨t1, t2, t3, t4, t5⟩ := exch h hs hX L (dif I (2 ^ q) ||| 2 ^ p) lt' r' c' cl' (fun z hzL => by
        obtain ⟨a1, a2, a3, a4, a5, a6, a7, a8⟩ := hz z (List.mem_cons_of_mem _ hzL)
        obtain ⟨d1, d2, _⟩ := hp1 z hzL
        simp only at d1 d2
        refine ⟨a1, a2, ?_, ?_, a5, a6, a7, a8⟩
        · rw [bit', a3]; simp [d1]
        · rw [bit', a4]; simp [d2]) (fun z hzL e => by
        obtain ⟨a1, a2, a3, a4, a5, a6, a7, a8⟩ := hz z (List.mem_cons_of_mem _ hzL)
        obtain ⟨d1, d2, d3⟩ := hp1 z hzL
        simp only at d1 d2 d3
        have bz := hb z (List.mem_cons_of_mem _ hzL)
        have hpz : p ≠ z.1 := fun w => by rw [w] at sp; rw [a5] at sp; cases sp
        -- the common closure
        have rC : r (dif I (2 ^ z.1) ||| 2 ^ p) + 1 = cnt 8 s := by
          rw [bz p]
          have k1 := h.less hs hX a5
          have k2 := h.mono (dif s (2 ^ z.1)) (dif s (2 ^ z.1) ||| 2 ^ p) (inc_or_l _ _)
          have k3 := h.step (dif s (2 ^ z.1)) p
          omega
        have k1 := h.less h1 (by rw [h2, h3]) a3
        have Iz' : (dif I (2 ^ q) ||| 2 ^ p).testBit z.1 = true := by rw [bit', a3]; simp [d1]
        have k2 := h.less lt' (by rw [r', c']) Iz'
        have s1 := h.same (A := dif I (2 ^ z.1)) (C := dif I (2 ^ z.1) ||| 2 ^ p) (inc_or_l _ _) (by omega) e
        have s2 := h.same (A := dif (dif I (2 ^ q) ||| 2 ^ p) (2 ^ z.1)) (C := dif I (2 ^ z.1) ||| 2 ^ p) (fun i hi => by
          rw [testBit_dif, bit', testBit_pow] at hi
          rw [Nat.testBit_or, testBit_dif, testBit_pow, testBit_pow]
          revert hi
          cases I.testBit i <;> cases decide (q = i) <;> cases decide (p = i) <;> cases decide (z.1 = i) <;> simp) (by omega) e
        rw [s2, ← s1, bz e]) hp2
    rw [e1]
    refine ⟨t1, t2, t3, t4, fun e he => ?_⟩
    rw [t5 e fun z hzL => he z (List.mem_cons_of_mem _ hzL), bit']
    obtain ⟨b1, b2⟩ := he (q, p) (List.mem_cons_self ..)
    simp only at b1 b2
    simp [b1, b2]
/-- One element more, by exchanges. -/
theorem RkF.augment {r : Nat → Nat} (h : RkF r) {s : Nat} (hs : s < 2 ^ 8) (hX : r s = cnt 8 s) {L : List (Nat × Nat)} {p0 : Nat} (h0 : p0 < 8) (hs0 : s.testBit p0 = false) (hr0 : r (s ||| 2 ^ p0) = cnt 8 s + 1)
    (hz : ∀ z, z ∈ L → z.1 < 8 ∧ z.2 < 8 ∧ s.testBit z.1 = true ∧ s.testBit z.2 = false ∧ r (dif s (2 ^ z.1) ||| 2 ^ z.2) = cnt 8 s ∧ r (s ||| 2 ^ z.2) = cnt 8 s)
    (hp : L.Pairwise (fun a b => a.1 ≠ b.1 ∧ a.2 ≠ b.2 ∧ r (dif s (2 ^ b.1) ||| 2 ^ a.2) ≠ cnt 8 s)) :
    tog L s ^^^ 2 ^ p0 < 2 ^ 8 ∧ r (tog L s ^^^ 2 ^ p0) = cnt 8 s + 1 ∧ cnt 8 (tog L s ^^^ 2 ^ p0) = cnt 8 s + 1 := by
  obtain ⟨t1, t2, t3, t4, t5⟩ := exch h hs hX L s hs hX rfl (fun _ => rfl) (fun z hzL => by
    obtain ⟨a1, a2, a3, a4, a5, a6⟩ := hz z hzL
    exact ⟨a1, a2, a3, a4, a3, a4, a5, a6⟩) (fun _ _ _ => rfl) hp
  have hb : (tog L s).testBit p0 = false := by
    rw [t5 p0 fun z hzL => ?_, hs0]
    obtain ⟨a1, a2, a3, a4, a5, a6⟩ := hz z hzL
    refine ⟨fun e => ?_, fun e => ?_⟩
    · rw [e, hs0] at a3; cases a3
    · rw [e] at a6; omega
  have e1 : tog L s ^^^ 2 ^ p0 = tog L s ||| 2 ^ p0 := bx fun j => by
    rw [Nat.testBit_xor, Nat.testBit_or, testBit_pow]
    rcases Classical.em (p0 = j) with c | c
    · subst c; simp [hb]
    · simp [c]
  rw [e1]
  exact ⟨or_lt t1 (pow_lt h0), by rw [t4 p0, hr0], by rw [cnt_add h0 hb, t3]⟩

/-! ### a way back -/
/-- From the last one back: who came from whom. -/
def lx : Nat → List (Nat × Nat) → List (Nat × Nat)
  | _, [] => []
  | p, (q, p') :: R => (q, p) :: lx p' R
def srcOf : Nat → List (Nat × Nat) → Nat
  | p, [] => p
  | _, (_, p') :: R => srcOf p' R
def wl : Nat → List (Nat × Nat) → List Nat
  | p, [] => [p]
  | p, (q, p') :: R => p :: q :: wl p' R
def xo (L : List Nat) (s : Nat) : Nat := L.foldl (fun s k => s ^^^ 2 ^ k) s
theorem xor_r (a b c : Nat) : a ^^^ b ^^^ c = a ^^^ c ^^^ b := by rw [Nat.xor_assoc, Nat.xor_comm b, ← Nat.xor_assoc]
theorem tog_x (L : List (Nat × Nat)) : ∀ (s a : Nat), tog L (s ^^^ a) = tog L s ^^^ a := by
  induction L with
  | nil => intro s a; rfl
  | cons z L ih =>
    intro s a
    show tog L (s ^^^ a ^^^ 2 ^ z.1 ^^^ 2 ^ z.2) = tog L (s ^^^ 2 ^ z.1 ^^^ 2 ^ z.2) ^^^ a
    rw [← ih, xor_r s a, xor_r _ a]
theorem tog_rev (L : List (Nat × Nat)) : ∀ s : Nat, tog L.reverse s = tog L s := by
  induction L with
  | nil => intro s; rfl
  | cons z L ih =>
    intro s
    rw [List.reverse_cons]
    show List.foldl _ _ (L.reverse ++ [z]) = _
    rw [List.foldl_append]
    show tog L.reverse s ^^^ 2 ^ z.1 ^^^ 2 ^ z.2 = tog L (s ^^^ 2 ^ z.1 ^^^ 2 ^ z.2)
    rw [ih, tog_x, tog_x]
theorem xo_x (L : List Nat) : ∀ (s a : Nat), xo L (s ^^^ a) = xo L s ^^^ a := by
  induction L with
  | nil => intro s a; rfl
  | cons z L ih =>
    intro s a
    show xo L (s ^^^ a ^^^ 2 ^ z) = xo L (s ^^^ 2 ^ z) ^^^ a
    rw [← ih, xor_r]
theorem wl_r : ∀ (R : List (Nat × Nat)) (p s : Nat), xo (wl p R) s = tog R s ^^^ 2 ^ p
  | [], p, s => rfl
  | (q, p') :: R, p, s => by
    show xo (wl p' R) (s ^^^ 2 ^ p ^^^ 2 ^ q) = tog R (s ^^^ 2 ^ q ^^^ 2 ^ p') ^^^ 2 ^ p
    rw [wl_r R p', tog_x, tog_x, tog_x, tog_x]
    rw [xor_r _ (2 ^ p) (2 ^ q), xor_r _ (2 ^ p) (2 ^ p')]
theorem wl_x : ∀ (R : List (Nat × Nat)) (p s : Nat), xo (wl p R) s = tog (lx p R) s ^^^ 2 ^ srcOf p R
  | [], p, s => rfl
  | (q, p') :: R, p, s => by
    show xo (wl p' R) (s ^^^ 2 ^ p ^^^ 2 ^ q) = tog (lx p' R) (s ^^^ 2 ^ q ^^^ 2 ^ p) ^^^ 2 ^ srcOf p' R
    rw [wl_x R p', xor_r]
end Go.SH

set_option linter.unusedSimpArgs false
set_option linter.unusedVariables false
namespace Go.SH
open Go Go.AX

theorem app_get {Q : List Nat} {k p : Nat} (h : p < Q.length) : (Q ++ [k]).getD p 0 = Q.getD p 0 := by
  rw [List.getD_eq_getElem?_getD, List.getD_eq_getElem?_getD, List.getElem?_append_left h]
theorem app_last {Q : List Nat} {k : Nat} : (Q ++ [k]).getD Q.length 0 = k := by
  rw [List.getD_eq_getElem?_getD, List.getElem?_append_right (Nat.le_refl _)]; simp

section
variable (m s : Nat) (r1 r2 : Nat → Nat)
def Src (i : Nat) : Prop := s.testBit i = false ∧ r1 (s ||| 2 ^ i) = cnt 8 s + 1
def Snk (i : Nat) : Prop := s.testBit i = false ∧ r2 (s ||| 2 ^ i) = cnt 8 s + 1
def Arc (i k : Nat) : Prop := (s.testBit i = false ∧ s.testBit k = true ∧ r2 (dif s (2 ^ k) ||| 2 ^ i) = cnt 8 s) ∨ (s.testBit i = true ∧ s.testBit k = false ∧ r1 (dif s (2 ^ i) ||| 2 ^ k) = cnt 8 s)
/-- What is known while the queue is gone through. -/
structure BI (at' : Nat) (C : List Int) (Q : List Nat) : Prop where
  len : C.length = m
  lt : ∀ i, i ∈ Q → i < m
  nd : ∀ p p', p < p' → p' < Q.length → Q.getD p 0 ≠ Q.getD p' 0
  mem : ∀ i, i < m → (C.getD i 0 ≠ -2 ↔ i ∈ Q)
  par : ∀ p, p < Q.length → (C.getD (Q.getD p 0) 0 = -1 ∧ Src s r1 (Q.getD p 0)) ∨ ∃ p', p' < p ∧ C.getD (Q.getD p 0) 0 = ((Q.getD p' 0 : Nat) : Int) ∧ Arc s r1 r2 (Q.getD p' 0) (Q.getD p 0) ∧ (∀ p'', p'' < p' → ¬ Arc s r1 r2 (Q.getD p'' 0) (Q.getD p 0)) ∧ ¬ Src s r1 (Q.getD p 0)
  src : ∀ i, i < m → Src s r1 i → i ∈ Q
  snk : ∀ p, p < at' → ¬ Snk s r2 (Q.getD p 0)
  arc : ∀ p, p < at' → ∀ k, k < m → Arc s r1 r2 (Q.getD p 0) k → k ∈ Q
def Chn (m : Nat) (C : List Int) : List Nat → Int → Prop
  | [], k => k = -1
  | a :: W, k => k = (a : Int) ∧ a < m ∧ Chn m C W (C.getD a 0)
end
section
variable {m s : Nat} {r1 r2 : Nat → Nat} {at' : Nat} {C : List Int} {Q : List Nat}
theorem BI.more (h : BI m s r1 r2 at' C Q) (ha : at' < Q.length) {k : Nat} (hk : k < m) (hC : C.getD k 0 = -2) (hA : Arc s r1 r2 (Q.getD at' 0) k) : BI m s r1 r2 at' (C.set k (Q.getD at' 0 : Nat)) (Q ++ [k]) := by
  have hkQ : k ∉ Q := fun q => (h.mem k hk).2 q hC
  have hkC : k < C.length := by rw [h.len]; exact hk
  have ne : ∀ p, p < Q.length → Q.getD p 0 ≠ k := fun p hp e => hkQ (mem_getD.2 ⟨p, hp, e⟩)
  refine ⟨by rw [List.length_set]; exact h.len, fun i hi => ?_, fun p p' hpp hp' => ?_, fun i hi => ?_, fun p hp => ?_, fun i hi hs => List.mem_append_left _ (h.src i hi hs), fun p hp => ?_, fun p hp j hj ha' => ?_⟩
  · rcases List.mem_append.1 hi with q | q
    · exact h.lt i q
    · rw [List.mem_singleton.1 q]; exact hk
  · rw [List.length_append, List.length_singleton] at hp'
    rcases Nat.lt_or_ge p' Q.length with c | c
    · rw [app_get (by omega), app_get c]; exact h.nd p p' hpp c
    · have : p' = Q.length := by omega
      subst this
      rw [app_get hpp, app_last]; exact ne p hpp
  · rw [set_getD _ hkC, List.mem_append, List.mem_singleton]
    by_cases c : i = k
    · subst c
      rw [if_pos rfl]
      exact ⟨fun _ => .inr rfl, fun _ => by omega⟩
    · rw [if_neg c, h.mem i hi]
      exact ⟨.inl, fun q => q.resolve_right c⟩
  · rw [List.length_append, List.length_singleton] at hp
    rcases Nat.lt_or_ge p Q.length with c | c
    · rw [app_get c, set_getD _ hkC, if_neg (ne p c)]
      rcases h.par p c with q | ⟨p', q1, q2, q3, q4, q5⟩
      · exact .inl q
      · refine .inr ⟨p', q1, by rw [app_get (by omega)]; exact q2, by rw [app_get (by omega)]; exact q3, fun p'' hp'' => ?_, q5⟩
        rw [app_get (by omega)]; exact q4 p'' hp''
    · have : p = Q.length := by omega
      subst this
      rw [app_last, set_getD _ hkC, if_pos rfl]
      refine .inr ⟨at', ha, by rw [app_get ha], by rw [app_get ha]; exact hA, fun p'' hp'' hx => ?_, fun hx => hkQ (h.src k hk hx)⟩
      rw [app_get (by omega)] at hx
      exact hkQ (h.arc p'' hp'' k hk hx)
  · rw [app_get (by omega)]; exact h.snk p hp
  · rw [app_get (by omega)] at ha'
    exact List.mem_append_left _ (h.arc p hp j hj ha')
theorem BI.next (h : BI m s r1 r2 at' C Q) (hs : ¬ Snk s r2 (Q.getD at' 0)) (ha : ∀ k, k < m → Arc s r1 r2 (Q.getD at' 0) k → k ∈ Q) : BI m s r1 r2 (at' + 1) C Q :=
  { h with
    snk := fun p hp => by
      rcases Nat.lt_succ_iff_lt_or_eq.1 hp with c | c
      · exact h.snk p c
      · subst c; exact hs
    arc := fun p hp k hk hx => by
      rcases Nat.lt_succ_iff_lt_or_eq.1 hp with c | c
      · exact h.arc p c k hk hx
      · subst c; exact ha k hk hx }
theorem lx_mem : ∀ {R : List (Nat × Nat)} {p : Nat} {z : Nat × Nat}, z ∈ lx p R → (∃ w, w ∈ R ∧ w.1 = z.1) ∧ (z.2 = p ∨ ∃ w, w ∈ R ∧ w.2 = z.2)
  | (q, p') :: R, p, z, h => by
    rcases List.mem_cons.1 h with rfl | h
    · exact ⟨⟨(q, p'), List.mem_cons_self .., rfl⟩, .inl rfl⟩
    · obtain ⟨⟨w, w1, w2⟩, h2⟩ := lx_mem h
      refine ⟨⟨w, List.mem_cons_of_mem _ w1, w2⟩, .inr ?_⟩
      rcases h2 with e | ⟨w', w1', w2'⟩
      · exact ⟨(q, p'), List.mem_cons_self .., e.symm⟩
      · exact ⟨w', List.mem_cons_of_mem _ w1', w2'⟩
/-- The way back from a reached element. -/
theorem BI.trace (h : BI m s r1 r2 at' C Q) : ∀ (n : Nat), n < Q.length → s.testBit (Q.getD n 0) = false → ∃ R : List (Nat × Nat),
    (∀ z, z ∈ R → ∃ a b, Q.getD a 0 = z.1 ∧ Q.getD b 0 = z.2 ∧ b < a ∧ a < n) ∧ (∃ e, e ≤ n ∧ srcOf (Q.getD n 0) R = Q.getD e 0) ∧ Src s r1 (srcOf (Q.getD n 0) R) ∧ (∀ z, z ∈ R → s.testBit z.1 = true ∧ s.testBit z.2 = false ∧ Arc s r1 r2 z.2 z.1) ∧
    (∀ z, z ∈ lx (Q.getD n 0) R → s.testBit z.1 = true ∧ s.testBit z.2 = false ∧ Arc s r1 r2 z.1 z.2 ∧ ¬ Src s r1 z.2) ∧ (lx (Q.getD n 0) R).Pairwise (fun a b => a.1 ≠ b.1 ∧ a.2 ≠ b.2 ∧ ¬ Arc s r1 r2 b.1 a.2) ∧
    R.Pairwise (fun a b => a.1 ≠ b.1 ∧ a.2 ≠ b.2 ∧ ¬ Arc s r1 r2 b.2 a.1) ∧ Chn m C (wl (Q.getD n 0) R) (Q.getD n 0 : Nat) := by
  intro n
  induction n using Nat.strongRecOn with
  | ind n ih =>
    intro hn hb
    have hlt := h.lt _ (mem_getD.2 ⟨n, hn, rfl⟩)
    rcases h.par n hn with ⟨c1, c2⟩ | ⟨a, a1, a2, a3, a4, a5⟩
    · exact ⟨[], fun z hz => (by cases hz), ⟨n, Nat.le_refl _, rfl⟩, c2, fun z hz => (by cases hz), fun z hz => (by cases hz), List.Pairwise.nil, List.Pairwise.nil, rfl, hlt, c1⟩
    · have hq : s.testBit (Q.getD a 0) = true := by
        rcases a3 with ⟨_, k2, _⟩ | ⟨k1, _⟩
        · rw [hb] at k2; cases k2
        · exact k1
      have halt := h.lt _ (mem_getD.2 ⟨a, by omega, rfl⟩)
      rcases h.par a (by omega) with ⟨_, c2⟩ | ⟨b, b1, b2, b3, b4, b5⟩
      · have := c2.1
        rw [hq] at this; cases this
      have hp1 : s.testBit (Q.getD b 0) = false := by
        rcases b3 with ⟨k1, _⟩ | ⟨_, k2, _⟩
        · exact k1
        · rw [hq] at k2; cases k2
      obtain ⟨R, t1, ⟨e, te1, te2⟩, t3, t4, t5, t6, t7, t8⟩ := ih b (by omega) (by omega) hp1
      have inj : ∀ x y, x < y → y < Q.length → Q.getD x 0 ≠ Q.getD y 0 := h.nd
      refine ⟨(Q.getD a 0, Q.getD b 0) :: R, fun z hz => ?_, ⟨e, by omega, te2⟩, t3, fun z hz => ?_, fun z hz => ?_, ?_, ?_, ?_⟩
      · rcases List.mem_cons.1 hz with rfl | hz
        · exact ⟨a, b, rfl, rfl, b1, a1⟩
        · obtain ⟨x, y, x1, x2, x3, x4⟩ := t1 z hz
          exact ⟨x, y, x1, x2, x3, by omega⟩
      · rcases List.mem_cons.1 hz with rfl | hz
        · exact ⟨hq, hp1, b3⟩
        · exact t4 z hz
      · rcases List.mem_cons.1 hz with rfl | hz
        · exact ⟨hq, hb, a3, a5⟩
        · exact t5 z hz
      · refine List.pairwise_cons.2 ⟨fun z hz => ?_, t6⟩
        obtain ⟨⟨w, w1, w2⟩, h2⟩ := lx_mem hz
        obtain ⟨x, y, x1, x2, x3, x4⟩ := t1 w w1
        rw [← w2, ← x1]
        refine ⟨(inj x a (by omega) (by omega)).symm, ?_, a4 x (by omega)⟩
        rcases h2 with e | ⟨w', w1', w2'⟩
        · rw [e]; exact (inj b n (by omega) hn).symm
        · obtain ⟨x', y', _, x2', x3', x4'⟩ := t1 w' w1'
          rw [← w2', ← x2']
          exact (inj y' n (by omega) hn).symm
      · refine List.pairwise_cons.2 ⟨fun z hz => ?_, t7⟩
        obtain ⟨x, y, x1, x2, x3, x4⟩ := t1 z hz
        rw [← x1, ← x2]
        exact ⟨(inj x a (by omega) (by omega)).symm, (inj y b (by omega) (by omega)).symm, b4 y (by omega)⟩
      · exact ⟨rfl, hlt, a2, halt, by rw [b2]; exact t8⟩
/-- What comes of turning the way over. -/
theorem BI.turned (h : BI m s r1 r2 at' C Q) (h8 : m ≤ 8) (h1 : RkF r1) (h2 : RkF r2) (hs : s < 2 ^ 8) (x1 : r1 s = cnt 8 s) (x2 : r2 s = cnt 8 s) (ha : at' < Q.length) (hk : Snk s r2 (Q.getD at' 0)) :
    ∃ W : List Nat, Chn m C W (Q.getD at' 0 : Nat) ∧ xo W s < 2 ^ 8 ∧ r1 (xo W s) = cnt 8 (xo W s) ∧ r2 (xo W s) = cnt 8 (xo W s) ∧ cnt 8 (xo W s) = cnt 8 s + 1 := by
  obtain ⟨R, t1, ⟨e, te1, te2⟩, t3, t4, t5, t6, t7, t8⟩ := h.trace at' ha hk.1
  have lt8 : ∀ p, p < Q.length → Q.getD p 0 < 8 := fun p hp => by
    have := h.lt _ (mem_getD.2 ⟨p, hp, rfl⟩); omega
  have lo : ∀ (r : Nat → Nat), RkF r → r s = cnt 8 s → ∀ p, s.testBit p = false → ¬ (s.testBit p = false ∧ r (s ||| 2 ^ p) = cnt 8 s + 1) → r (s ||| 2 ^ p) = cnt 8 s := fun r hr hx p hp hn => by
    have k1 := hr.step s p
    have k2 := hr.mono s (s ||| 2 ^ p) (inc_or_l _ _)
    have k3 : ¬ r (s ||| 2 ^ p) = cnt 8 s + 1 := fun z => hn ⟨hp, z⟩
    omega
  have A := h1.augment hs x1 (L := lx (Q.getD at' 0) R) (p0 := srcOf (Q.getD at' 0) R) (by rw [te2]; exact lt8 e (by omega)) t3.1 t3.2 (fun z hz => by
    obtain ⟨k1, k2, k3, k4⟩ := t5 z hz
    obtain ⟨⟨w, w1, w2⟩, hw⟩ := lx_mem hz
    obtain ⟨x, y, y1, y2, y3, y4⟩ := t1 w w1
    refine ⟨by rw [← w2, ← y1]; exact lt8 x (by omega), ?_, k1, k2, ?_, lo r1 h1 x1 z.2 k2 k4⟩
    · rcases hw with e' | ⟨w', w1', w2'⟩
      · rw [e']; exact lt8 at' ha
      · obtain ⟨x', y', _, y2', y3', y4'⟩ := t1 w' w1'
        rw [← w2', ← y2']; exact lt8 y' (by omega)
    · rcases k3 with ⟨q, _⟩ | ⟨_, _, q⟩
      · rw [k1] at q; cases q
      · exact q) (List.Pairwise.imp_of_mem (fun {a b} ha' hb' hab => ⟨hab.1, hab.2.1, fun q => hab.2.2 (.inr ⟨(t5 b hb').1, (t5 a ha').2.1, q⟩)⟩) t6)
  have B := h2.augment hs x2 (L := R.reverse) (p0 := Q.getD at' 0) (lt8 at' ha) hk.1 hk.2 (fun z hz => by
    have hz' := List.mem_reverse.1 hz
    obtain ⟨k1, k2, k3⟩ := t4 z hz'
    obtain ⟨x, y, y1, y2, y3, y4⟩ := t1 z hz'
    refine ⟨by rw [← y1]; exact lt8 x (by omega), by rw [← y2]; exact lt8 y (by omega), k1, k2, ?_, lo r2 h2 x2 z.2 k2 (by rw [← y2]; exact h.snk y (by omega))⟩
    rcases k3 with ⟨_, _, q⟩ | ⟨q, _⟩
    · exact q
    · rw [k2] at q; cases q) (List.pairwise_reverse.2 (List.Pairwise.imp_of_mem (fun {a b} ha' hb' hab => ⟨hab.1.symm, hab.2.1.symm, fun q => hab.2.2 (.inl ⟨(t4 b hb').2.1, (t4 a ha').1, q⟩)⟩) t7))
  rw [← wl_x] at A
  rw [tog_rev, ← wl_r] at B
  exact ⟨wl (Q.getD at' 0) R, t8, A.1, by rw [A.2.1, A.2.2], by rw [B.2.1, B.2.2], A.2.2⟩
/-- Beyond some of a free set. -/
theorem RkF.beyond {r : Nat → Nat} (h : RkF r) (hs : s < 2 ^ 8) (hX : r s = cnt 8 s) {e : Nat} (he : r (s ||| 2 ^ e) = cnt 8 s) : ∀ D, D < 2 ^ 8 → Inc D s → (∀ q, D.testBit q = true → r (dif s (2 ^ q) ||| 2 ^ e) ≠ cnt 8 s) → r (dif s D ||| 2 ^ e) = r (dif s D) ∧ r (dif s D) = cnt 8 (dif s D) := by
  refine set_ind (m := 8) (fun D => Inc D s → (∀ q, D.testBit q = true → r (dif s (2 ^ q) ||| 2 ^ e) ≠ cnt 8 s) → r (dif s D ||| 2 ^ e) = r (dif s D) ∧ r (dif s D) = cnt 8 (dif s D)) (fun _ _ => ?_) ?_
  · rw [dif_zero, he, hX]; exact ⟨rfl, rfl⟩
  · intro D q hD hq hb ih hin hn
    obtain ⟨i1, i2⟩ := ih ((inc_or_l _ _).trans hin) fun q' hq' => hn q' (by rw [Nat.testBit_or, hq']; rfl)
    have hsq : s.testBit q = true := hin q (by rw [Nat.testBit_or, testBit_pow]; simp)
    have k1 := hn q (by rw [Nat.testBit_or, testBit_pow]; simp)
    have k2 := h.less hs hX hsq
    have k3 := h.step (dif s (2 ^ q)) e
    have hdq : (dif s D).testBit q = true := by rw [testBit_dif, hsq, hb]; rfl
    have e1 : dif s (D ||| 2 ^ q) = dif (dif s D) (2 ^ q) := bx fun i => by
      rw [testBit_dif, testBit_dif, testBit_dif, Nat.testBit_or]
      cases s.testBit i <;> cases D.testBit i <;> cases (2 ^ q).testBit i <;> rfl
    have k4 := h.less (I := dif s D) (dif_lt (n := 8) hs) i2 hdq
    have k5 := cnt_dif (m := 8) (c := dif s D) (dif_lt (n := 8) hs) hdq
    have k6 := h.sub (dif s D ||| 2 ^ e) (dif s (2 ^ q) ||| 2 ^ e)
    have e2 : (dif s D ||| 2 ^ e) ||| (dif s (2 ^ q) ||| 2 ^ e) = s ||| 2 ^ e := bx fun i => by
      simp only [Nat.testBit_or, testBit_dif, testBit_pow]
      rcases Classical.em (q = i) with c | c
      · subst c; simp [hb, hsq]
      · simp [c]
        cases s.testBit i <;> cases D.testBit i <;> simp
    have e3 : (dif s D ||| 2 ^ e) &&& (dif s (2 ^ q) ||| 2 ^ e) = dif (dif s D) (2 ^ q) ||| 2 ^ e := bx fun i => by
      simp only [Nat.testBit_or, Nat.testBit_and, testBit_dif]
      cases s.testBit i <;> cases D.testBit i <;> cases (2 ^ q).testBit i <;> cases (2 ^ e).testBit i <;> rfl
    have k7 := h.mono (dif (dif s D) (2 ^ q)) (dif (dif s D) (2 ^ q) ||| 2 ^ e) (inc_or_l _ _)
    rw [e2, e3, he] at k6
    rw [e1]
    omega
end
/-- What bars a larger one. -/
theorem BI.bar {m s : Nat} {A B : List Nat} (hA : Mat m A) (hB : Mat m B) (hs : s < 2 ^ m) (x1 : rk m A s = cnt 8 s) (x2 : rk m B s = cnt 8 s) {C : List Int} {Q : List Nat} (h : BI m s (rk m A) (rk m B) Q.length C Q) : ∃ U, U < 2 ^ m ∧ rk m A (cpl m U) + rk m B U ≤ cnt 8 s := by
  have h8 := hA.m8
  have hs8 : s < 2 ^ 8 := Nat.lt_of_lt_of_le hs (Nat.pow_le_pow_right (by omega) h8)
  let U := mkset m fun i => decide (i ∈ Q)
  have hU : U < 2 ^ m := mkset_lt m _
  have bU : ∀ i, U.testBit i = true ↔ i < m ∧ i ∈ Q := fun i => by
    show (mkset m _).testBit i = true ↔ _
    rw [mkset_bit]; simp
  have lo : ∀ (r : Nat → Nat), RkF r → r s = cnt 8 s → ∀ p, ¬ r (s ||| 2 ^ p) = cnt 8 s + 1 → r (s ||| 2 ^ p) = cnt 8 s := fun r hr hx p hn => by
    have k1 := hr.step s p
    have k2 := hr.mono s (s ||| 2 ^ p) (inc_or_l _ _)
    omega
  have self : ∀ {t i : Nat}, t.testBit i = true → t ||| 2 ^ i = t := fun {t i} hi => bx fun j => by
    rw [Nat.testBit_or, testBit_pow]
    rcases Classical.em (i = j) with c | c
    · subst c; simp [hi]
    · simp [c]
  have base1 : rk m A (dif s U) = cnt 8 (dif s U) := by
    have := (hA.ind_iff (dif_lt hs)).1 (((hA.ind_iff hs).2 (by rw [x1, cnt8 h8 hs])).mono (inc_dif s U))
    rw [this, cnt8 h8 (dif_lt hs)]
  have base2 : rk m B (s &&& U) = cnt 8 (s &&& U) := by
    have := (hB.ind_iff (and_lt hs)).1 (((hB.ind_iff hs).2 (by rw [x2, cnt8 h8 hs])).mono (inc_and_l s U))
    rw [this, cnt8 h8 (and_lt hs)]
  have c1 : rk m A (dif s U ||| cpl m U) = rk m A (dif s U) := hA.rk_all (cpl_lt m U) fun i hi => by
    rw [cpl_bit] at hi
    simp only [Bool.and_eq_true, decide_eq_true_eq, Bool.not_eq_true'] at hi
    obtain ⟨im, iU⟩ := hi
    have iQ : i ∉ Q := fun q => by rw [(bU i).2 ⟨im, q⟩] at iU; cases iU
    cases hb : s.testBit i with
    | true => rw [self (by rw [testBit_dif, hb, iU]; rfl)]
    | false =>
      have := (hA.rkF.beyond hs8 x1 (lo _ hA.rkF x1 i fun z => iQ (h.src i im ⟨hb, z⟩)) (s &&& U) (and_lt (n := 8) hs8) (inc_and_l _ _) fun q hq z => by
        rw [Nat.testBit_and, Bool.and_eq_true] at hq
        obtain ⟨p, hp, e⟩ := mem_getD.1 ((bU q).1 hq.2).2
        exact iQ (h.arc p hp i im (.inr ⟨by rw [e]; exact hq.1, hb, by rw [e]; exact z⟩))).1
      have e1 : dif s (s &&& U) = dif s U := bx fun j => by
        rw [testBit_dif, testBit_dif, Nat.testBit_and]
        cases s.testBit j <;> cases U.testBit j <;> rfl
      rw [e1] at this; exact this
  have c2 : rk m B ((s &&& U) ||| U) = rk m B (s &&& U) := hB.rk_all hU fun i hi => by
    obtain ⟨im, iQ⟩ := (bU i).1 hi
    cases hb : s.testBit i with
    | true => rw [self (by rw [Nat.testBit_and, hb, hi]; rfl)]
    | false =>
      obtain ⟨p, hp, e⟩ := mem_getD.1 iQ
      have hns := h.snk p hp
      rw [e] at hns
      have := (hB.rkF.beyond hs8 x2 (lo _ hB.rkF x2 i fun z => hns ⟨hb, z⟩) (dif s U) (dif_lt (n := 8) hs8) (inc_dif _ _) fun q hq z => by
        rw [testBit_dif, Bool.and_eq_true] at hq
        have qm := bit_lt hs hq.1
        have := h.arc p hp q qm (.inl ⟨by rw [e]; exact hb, hq.1, by rw [e]; exact z⟩)
        have := (bU q).2 ⟨qm, this⟩
        rw [this] at hq
        simp at hq).1
      have e1 : dif s (dif s U) = s &&& U := bx fun j => by
        rw [testBit_dif, testBit_dif, Nat.testBit_and]
        cases s.testBit j <;> cases U.testBit j <;> rfl
      rw [e1] at this; exact this
  refine ⟨U, hU, ?_⟩
  have k1 := hA.rk_mono (inc_or_r (dif s U) (cpl m U))
  have k2 := hB.rk_mono (inc_or_r (s &&& U) U)
  have k3 := cnt_split 8 s U
  omega
end Go.SH

set_option linter.unusedSimpArgs false
set_option linter.unusedVariables false
namespace Go.SH
open Go Go.AX

theorem meet_size_nat {a : Nat} (h : a < 256) : meet_size (a : Int) = some ((size a : Nat) : Int) := by
  unfold meet_size
  rw [chk_pos (by omega)]
  simp [bits_OnesCount, oc_size h]
theorem in_nat {m : Nat} {B : List Nat} (h : Mat m B) {t : Nat} (ht : t < 2 ^ m) : meet_grown_1 (cs (rkL m B)) (t : Int) = some (decide (rk m B t = cnt m t)) := by
  have h256 := pow_le8 h.m8
  unfold meet_grown_1
  rw [chk_pos (by rw [cs_len, rkL_len]; omega), meet_size_nat (by omega), Option.bind_some, toNat_nat, cs_get, rkL_get m B ht, size_of_lt ht h.m8]
  congr 1
  rw [Bool.eq_iff_iff, decide_eq_true_eq, decide_eq_true_eq]; omega
theorem dich (b : Bool) : b = false ∨ b = true := by cases b <;> simp
theorem bitI (s i : Nat) : iand ((s : Int) / ((2 ^ i : Nat) : Int)) 1 = if s.testBit i = true then 1 else 0 := by
  have := bit_nat s i
  rw [toNat_nat, shl_nat'] at this; exact this
theorem len_le_of : ∀ {P Q : List Nat}, P.Nodup → (∀ a, a ∈ P → a ∈ Q) → P.length ≤ Q.length
  | [], _, _, _ => Nat.zero_le _
  | a :: P, Q, hn, h => by
    obtain ⟨h1, h2⟩ := List.nodup_cons.1 hn
    have ha := h a (List.mem_cons_self ..)
    have := len_le_of (P := P) (Q := Q.erase a) h2 fun b hb => (List.mem_erase_of_ne fun e => h1 (by rw [← e]; exact hb)).2 (h b (List.mem_cons_of_mem _ hb))
    rw [List.length_erase_of_mem ha] at this
    have := List.length_pos_of_mem ha
    rw [List.length_cons]; omega
theorem BI.qlen {m s : Nat} {r1 r2 : Nat → Nat} {at' : Nat} {C : List Int} {Q : List Nat} (h : BI m s r1 r2 at' C Q) : Q.length ≤ m := by
  have hn : Q.Nodup := by
    rw [List.Nodup, List.pairwise_iff_getElem]
    intro i j hi hj hij
    have := h.nd i j hij hj
    rw [List.getD_eq_getElem?_getD, List.getD_eq_getElem?_getD, List.getElem?_eq_getElem hi, List.getElem?_eq_getElem hj] at this
    exact this
  have := len_le_of (Q := List.range m) hn fun a ha => List.mem_range.2 (h.lt a ha)
  rw [List.length_range] at this; exact this
section
variable {m : Nat} {A B : List Nat} (hA : Mat m A) (hB : Mat m B)
include hA hB
theorem grown_spec {s : Nat} (hs : s < 2 ^ m) (x1 : rk m A s = cnt m s) (x2 : rk m B s = cnt m s) : Gets (meet_grown (cs (rkL m A)) (cs (rkL m B)) m s) (fun r => (r.2.2 = true ∧ ∃ t : Nat, r.1 = (t : Int) ∧ t < 2 ^ m ∧ rk m A t = cnt m t ∧ rk m B t = cnt m t ∧ cnt m t = cnt m s + 1) ∨ (r.2.2 = false ∧ r.1 = (s : Int) ∧ ∃ U, U < 2 ^ m ∧ rk m A (cpl m U) + rk m B U ≤ cnt m s)) := by
  have h8 := hA.m8
  have h256 := pow_le8 h8
  have hs8 : s < 2 ^ 8 := Nat.lt_of_lt_of_le hs (Nat.pow_le_pow_right (by omega) h8)
  have c8 : cnt 8 s = cnt m s := cnt8 h8 hs
  have srcD : ∀ {i : Nat}, i < m → s.testBit i = false → (rk m A (s ||| 2 ^ i) = cnt m (s ||| 2 ^ i) ↔ Src s (rk m A) i) := fun {i} hi hb => by
    unfold Src
    rw [cnt_add hi hb, c8]
    exact ⟨fun q => ⟨hb, q⟩, fun q => q.2⟩
  have snkD : ∀ {i : Nat}, i < m → s.testBit i = false → (rk m B (s ||| 2 ^ i) = cnt m (s ||| 2 ^ i) ↔ Snk s (rk m B) i) := fun {i} hi hb => by
    unfold Snk
    rw [cnt_add hi hb, c8]
    exact ⟨fun q => ⟨hb, q⟩, fun q => q.2⟩
  have cs' : ∀ {x y : Nat}, y < m → s.testBit x = true → s.testBit y = false → cnt m (dif s (2 ^ x) ||| 2 ^ y) = cnt m s := fun {x y} hy h1 h2 => by
    have hxy : (dif s (2 ^ x)).testBit y = false := by rw [testBit_dif, h2]; rfl
    rw [cnt_add hy hxy, cnt_dif hs h1]
  unfold meet_grown
  refine gChk (by omega) ?_
  -- nobody has come from anywhere
  refine gBind (R := fun v => v.length = m ∧ ∀ j, j < m → v.getD j 0 = -2) (gFor m (fun k (x : List Int × Int) => x.2 = (k : Int) ∧ x.1.length = m ∧ ∀ j, j < k → x.1.getD j 0 = -2) (Nat.zero_le _) ⟨rfl, by simp, none_all⟩ ?_) ?_
  · rintro k ⟨v, _⟩ hk ⟨rfl, hv, hall⟩
    simp only at hv hall
    simp only [List.length_replicate, toNat_nat]
    refine gIte (fun h1 => gChk (by omega) (gSome ⟨by omega, by simp, by simp [hv], fun j hj => ?_⟩)) fun h1 => gSome ⟨hv, by have e : k = m := (by omega); subst e; exact hall⟩
    rw [set_getD _ (by omega)]
    by_cases c : j = k
    · rw [if_pos c]
    · rw [if_neg c]; exact hall j (by omega)
  rintro v2 ⟨hv2, hall2⟩
  -- the sources
  refine gBind (R := fun z => ∃ Q : List Nat, z.2 = cs Q ∧ BI m s (rk m A) (rk m B) 0 z.1 Q) (gFor m (fun k (x : List Int × List Int × Int) => x.2.2 = (k : Int) ∧ ∃ Q : List Nat, x.2.1 = cs Q ∧ Q.length ≤ k ∧ x.1.length = m ∧ (∀ i, i ∈ Q → i < k ∧ Src s (rk m A) i) ∧ (∀ i, i < k → Src s (rk m A) i → i ∈ Q) ∧ (∀ p p', p < p' → p' < Q.length → Q.getD p 0 ≠ Q.getD p' 0) ∧ ∀ j, j < m → x.1.getD j 0 = if j ∈ Q then -1 else -2) (Nat.zero_le _) ⟨rfl, [], rfl, Nat.le_refl _, hv2, fun i hi => (by cases hi), none_all, fun p p' _ h => absurd h (by simp), fun j hj => by rw [if_neg (by simp)]; exact hall2 j hj⟩ ?_) ?_
  · rintro k ⟨v3, _, _⟩ hk ⟨rfl, Q, rfl, q1, q2, q3, q4, q5, q6⟩
    simp only at q2 q6
    simp only [toNat_nat, shl_nat', bitI, or_nat]
    refine gIte (fun h1 => ?_) fun h1 => gSome ?_
    rotate_left
    · have e : k = m := by omega
      subst e
      refine ⟨Q, rfl, q2, fun i hi => (q3 i hi).1, q5, fun i hi => ?_, fun p hp => .inl ?_, q4, fun p hp => absurd hp (Nat.not_lt_zero p), fun p hp => absurd hp (Nat.not_lt_zero p)⟩
      · rw [q6 i hi]
        by_cases c : i ∈ Q
        · rw [if_pos c]; exact ⟨fun _ => c, fun _ => by omega⟩
        · rw [if_neg c]; exact ⟨fun z => absurd rfl z, fun z => absurd z c⟩
      · have hm := mem_getD.2 ⟨p, hp, rfl⟩
        obtain ⟨k1, k2⟩ := q3 _ hm
        exact ⟨by rw [q6 _ k1, if_pos hm], k2⟩
    · have hk' : k < m := by omega
      refine gChk ⟨by omega, fun _ => by omega⟩ ?_
      have skip : ¬ Src s (rk m A) k → (k < m ∧ ((k : Int) + 1 = ((k + 1 : Nat) : Int) ∧ ∃ Q' : List Nat, cs Q = cs Q' ∧ Q'.length ≤ k + 1 ∧ v3.length = m ∧ (∀ i, i ∈ Q' → i < k + 1 ∧ Src s (rk m A) i) ∧ (∀ i, i < k + 1 → Src s (rk m A) i → i ∈ Q') ∧ (∀ p p', p < p' → p' < Q'.length → Q'.getD p 0 ≠ Q'.getD p' 0) ∧ ∀ j, j < m → v3.getD j 0 = if j ∈ Q' then -1 else -2)) := fun hn => ⟨hk', by simp, Q, rfl, by omega, q2, fun i hi => ⟨by have := (q3 i hi).1; omega, (q3 i hi).2⟩, step_all q4 fun z => absurd z hn, q5, q6⟩
      cases hb : s.testBit k with
      | true =>
        exact gIte (fun q => absurd q (by simp)) fun _ => gSome (skip fun z => by have := z.1; rw [hb] at this; cases this)
      | false =>
        refine gIte (fun _ => ?_) fun q => absurd (by simp) q
        refine gBindE (in_nat hA (or_lt hs (pow_lt hk'))) ?_
        refine gIte (fun q => ?_) fun q => gSome (skip fun z => q (decide_eq_true ((srcD hk' hb).2 z)))
        have hS := (srcD hk' hb).1 (of_decide_eq_true q)
        have hkQ : k ∉ Q := fun z => by have := (q3 k z).1; omega
        refine gChk (by omega) (gChk (by rw [List.length_append, cs_len]; simp only [List.length_cons, List.length_nil]; omega) (gSome ⟨hk', by simp, Q ++ [k], by rw [cs_app], by rw [List.length_append]; simp only [List.length_cons, List.length_nil]; omega, by simp [q2], fun i hi => ?_, fun i hi hSi => ?_, fun p p' hpp hp' => ?_, fun j hj => ?_⟩))
        · rcases List.mem_append.1 hi with z | z
          · exact ⟨by have := (q3 i z).1; omega, (q3 i z).2⟩
          · rw [List.mem_singleton.1 z]; exact ⟨by omega, hS⟩
        · rcases Nat.lt_succ_iff_lt_or_eq.1 hi with c | c
          · exact List.mem_append_left _ (q4 i c hSi)
          · subst c; exact List.mem_append_right _ (List.mem_singleton.2 rfl)
        · rw [List.length_append, List.length_singleton] at hp'
          rcases Nat.lt_or_ge p' Q.length with c | c
          · rw [app_get (by omega), app_get c]; exact q5 p p' hpp c
          · have : p' = Q.length := by omega
            subst this
            rw [app_get hpp, app_last]
            exact fun z => hkQ (mem_getD.2 ⟨p, hpp, z⟩)
        · rw [set_getD _ (by omega)]
          by_cases c : j = k
          · subst c; rw [if_pos rfl, if_pos (List.mem_append_right _ (List.mem_singleton.2 rfl))]
          · rw [if_neg c, q6 j hj]
            by_cases d : j ∈ Q
            · rw [if_pos d, if_pos (List.mem_append_left _ d)]
            · rw [if_neg d, if_neg fun z => (List.mem_append.1 z).elim d fun z => c (List.mem_singleton.1 z)]
  rintro ⟨C0, _⟩ ⟨Q0, rfl, hB0⟩
  simp only at hB0
  -- one behind the other
  refine gBind (R := fun z => match z with | .inl v => ∃ Q, BI m s (rk m A) (rk m B) Q.length v Q | .inr r => r.2.2 = true ∧ ∃ t : Nat, r.1 = (t : Int) ∧ t < 2 ^ m ∧ rk m A t = cnt m t ∧ rk m B t = cnt m t ∧ cnt m t = cnt m s + 1) (gFor m (fun p (x : List Int × List Int × Int) => x.2.2 = (p : Int) ∧ ∃ Q : List Nat, x.2.1 = cs Q ∧ p ≤ Q.length ∧ BI m s (rk m A) (rk m B) p x.1 Q) (Nat.zero_le _) ⟨rfl, Q0, rfl, Nat.zero_le _, hB0⟩ ?_) ?_
  · rintro p ⟨C, _, _⟩ hp ⟨rfl, Q, rfl, hpQ, hBI⟩
    simp only at hBI
    have hql := hBI.qlen
    simp only [cs_len, cs_get, toNat_nat]
    refine gIte (fun h1 => ?_) fun h1 => gSome ⟨Q, by have e : p = Q.length := (by omega); subst e; exact hBI⟩
    have hp' : p < Q.length := by omega
    have him := hBI.lt _ (mem_getD.2 ⟨p, hp', rfl⟩)
    have hCl := hBI.len
    generalize hie : Q.getD p 0 = i at him
    simp only [toNat_nat, shl_nat', bitI, or_nat, dif_nat]
    refine gChk (by omega) (gChk (by omega) ?_)
    refine gJoin (R := fun _ => ¬ Snk s (rk m B) i) ?_ ?_
    · rintro _ hns
      refine gBind (R := fun z => ∃ Q' : List Nat, z.2 = cs Q' ∧ BI m s (rk m A) (rk m B) p z.1 Q' ∧ p < Q'.length ∧ Q'.getD p 0 = i ∧ ∀ k, k < m → Arc s (rk m A) (rk m B) i k → k ∈ Q') (gFor m (fun k (x : List Int × List Int × Int) => x.2.2 = (k : Int) ∧ ∃ Q' : List Nat, x.2.1 = cs Q' ∧ BI m s (rk m A) (rk m B) p x.1 Q' ∧ p < Q'.length ∧ Q'.getD p 0 = i ∧ ∀ k', k' < k → Arc s (rk m A) (rk m B) i k' → k' ∈ Q') (Nat.zero_le _) ⟨rfl, Q, rfl, hBI, hp', hie, none_all⟩ ?_) ?_
      · rintro k ⟨C', _, _⟩ hk ⟨rfl, Q', rfl, b1, b2, b3, b4⟩
        simp only at b1
        have hql' := b1.qlen
        have hCl' := b1.len
        simp only [toNat_nat, shl_nat', bitI, or_nat, dif_nat]
        refine gIte (fun h2 => ?_) fun h2 => gSome ⟨Q', rfl, b1, b2, b3, by have e : k = m := (by omega); subst e; exact b4⟩
        have hk' : k < m := by omega
        have skip : (Arc s (rk m A) (rk m B) i k → k ∈ Q') → (k < m ∧ ((k : Int) + 1 = ((k + 1 : Nat) : Int) ∧ ∃ Q'' : List Nat, cs Q' = cs Q'' ∧ BI m s (rk m A) (rk m B) p C' Q'' ∧ p < Q''.length ∧ Q''.getD p 0 = i ∧ ∀ k', k' < k + 1 → Arc s (rk m A) (rk m B) i k' → k' ∈ Q'')) := fun hn => ⟨hk', by simp, Q', rfl, b1, b2, b3, step_all b4 hn⟩
        refine gChk ⟨by omega, fun _ => by omega⟩ ?_
        by_cases hc : C'.getD k 0 = -2
        rotate_left
        · exact gIte (fun _ => gSome (skip fun _ => (b1.mem k hk').1 hc)) fun q => absurd (.inl hc) q
        have more : Arc s (rk m A) (rk m B) i k → (k < m ∧ ((k : Int) + 1 = ((k + 1 : Nat) : Int) ∧ ∃ Q'' : List Nat, cs Q' ++ [(k : Int)] = cs Q'' ∧ BI m s (rk m A) (rk m B) p (C'.set k (i : Int)) Q'' ∧ p < Q''.length ∧ Q''.getD p 0 = i ∧ ∀ k', k' < k + 1 → Arc s (rk m A) (rk m B) i k' → k' ∈ Q'')) := fun ha => by
          have hm := b1.more b2 hk' hc (by rw [b3]; exact ha)
          rw [b3] at hm
          refine ⟨hk', by simp, Q' ++ [k], by rw [cs_app], hm, by rw [List.length_append]; omega, by rw [app_get b2, b3], fun k' hk'' ha' => ?_⟩
          rcases Nat.lt_succ_iff_lt_or_eq.1 hk'' with c | c
          · exact List.mem_append_left _ (b4 k' c ha')
          · subst c; exact List.mem_append_right _ (List.mem_singleton.2 rfl)
        have hl1 : (cs Q' ++ [(k : Int)]).length ≤ 8796093022208 := by rw [List.length_append, cs_len]; simp only [List.length_cons, List.length_nil]; omega
        rcases dich (s.testBit i) with hbi | hbi
        · rcases dich (s.testBit k) with hbk | hbk
          · refine gIte (fun _ => gSome (skip fun z => ?_)) fun q => absurd (.inr (by simp [hbi, hbk])) q
            rcases z with ⟨_, z, _⟩ | ⟨z, _⟩
            · rw [hbk] at z; cases z
            · rw [hbi] at z; cases z
          · refine gIte (fun q => absurd q (by simp [hbi, hbk]; exact hc)) fun _ => ?_
            refine gChk ⟨fun _ => by omega, fun _ => by omega⟩ (gIte (fun _ => ?_) fun q => absurd (by simp [hbi]) q)
            refine gBindE (in_nat hB (or_lt (dif_lt hs) (pow_lt him))) ?_
            refine gChk ⟨fun q => absurd (by simp [hbi]) q.2, fun q => absurd (by simp [hbi]) q.2⟩ ?_
            by_cases hx : rk m B (dif s (2 ^ k) ||| 2 ^ i) = cnt m (dif s (2 ^ k) ||| 2 ^ i)
            · refine gIte (fun z => absurd z (by simp [hx])) fun _ => gIte (fun _ => ?_) fun z => absurd (.inl (by simp [hx])) z
              exact gChk (by omega) (gChk hl1 (gSome (more (.inl ⟨hbi, hbk, by rw [hx, cs' him hbk hbi, c8]⟩))))
            · refine gIte (fun _ => gIte (fun z => absurd z (by simp [hbi])) fun _ => gIte (fun z => absurd z (by simp [hx])) fun _ => gSome (skip fun z => ?_)) fun z => absurd (by simp [hx]) z
              rcases z with ⟨_, _, z⟩ | ⟨z, _⟩
              · exact absurd (by rw [z, cs' him hbk hbi, c8]) hx
              · rw [hbi] at z; cases z
        · rcases dich (s.testBit k) with hbk | hbk
          rotate_left
          · refine gIte (fun _ => gSome (skip fun z => ?_)) fun q => absurd (.inr (by simp [hbi, hbk])) q
            rcases z with ⟨z, _⟩ | ⟨_, z, _⟩
            · rw [hbi] at z; cases z
            · rw [hbk] at z; cases z
          · refine gIte (fun q => absurd q (by simp [hbi, hbk]; exact hc)) fun _ => ?_
            refine gChk ⟨fun _ => by omega, fun _ => by omega⟩ (gIte (fun q => absurd q (by simp [hbi])) fun _ => ?_)
            refine gChk ⟨fun _ => by omega, fun _ => by omega⟩ (gIte (fun _ => ?_) fun q => absurd (by simp [hbi]) q)
            refine gBindE (in_nat hA (or_lt (dif_lt hs) (pow_lt hk'))) ?_
            by_cases hx : rk m A (dif s (2 ^ i) ||| 2 ^ k) = cnt m (dif s (2 ^ i) ||| 2 ^ k)
            · refine gIte (fun _ => ?_) fun z => absurd (by simp [hx]) z
              exact gChk (by omega) (gChk hl1 (gSome (more (.inr ⟨hbi, hbk, by rw [hx, cs' hk' hbi hbk, c8]⟩))))
            · refine gIte (fun z => absurd z (by simp [hx])) fun _ => gSome (skip fun z => ?_)
              rcases z with ⟨z, _⟩ | ⟨_, _, z⟩
              · rw [hbi] at z; cases z
              · exact absurd (by rw [z, cs' hk' hbi hbk, c8]) hx
      · rintro ⟨C', _⟩ ⟨Q', rfl, b1, b2, b3, b4⟩
        have hql' := b1.qlen
        exact gChk (by omega) (gSome ⟨by omega, by simp, Q', rfl, by omega, b1.next (by rw [b3]; exact hns) (by rw [b3]; exact b4)⟩)
    · intro j hj
      refine gChk (fun _ => by omega) ?_
      rcases dich (s.testBit i) with hbi | hbi
      rotate_left
      · exact gIte (fun q => absurd q (by simp [hbi])) fun _ => hj () fun z => by have := z.1; rw [hbi] at this; cases this
      · refine gIte (fun _ => ?_) fun q => absurd (by simp [hbi]) q
        refine gBindE (in_nat hB (or_lt hs (pow_lt him))) ?_
        refine gIte (fun q => ?_) fun q => hj () fun z => q (decide_eq_true ((snkD him hbi).2 z))
        have hsn := (snkD him hbi).1 (of_decide_eq_true q)
        obtain ⟨W, w1, w2, w3, w4, w5⟩ := hBI.turned h8 hA.rkF hB.rkF hs8 (by rw [x1, c8]) (by rw [x2, c8]) hp' (by rw [hie]; exact hsn)
        rw [hie] at w1
        have wlt : ∀ (W : List Nat) (k : Int) (t : Nat), Chn m C W k → t < 2 ^ m → xo W t < 2 ^ m := by
          intro W
          induction W with
          | nil => intro k t _ ht; exact ht
          | cons a W ih => intro k t hc ht; exact ih _ _ hc.2.2 (Nat.xor_lt_two_pow ht (pow_lt hc.2.1))
        have hxl := wlt W _ s w1 hs
        refine gBind (R := fun v => v = ((xo W s : Nat) : Int)) (gFor W.length (fun k (x : Int × Int) => ∃ (W' : List Nat) (t : Nat), W'.length + k = W.length ∧ Chn m C W' x.2 ∧ x.1 = (t : Int) ∧ t < 2 ^ 8 ∧ xo W' t = xo W s) (Nat.zero_le _) ⟨W, s, rfl, w1, rfl, hs8, rfl⟩ ?_) ?_
        · rintro k ⟨_, v⟩ hk ⟨W', t, y1, y2, rfl, y4, y5⟩
          cases W' with
          | nil =>
            have e : v = -1 := y2
            subst e
            exact gIte (fun z => absurd z (by omega)) fun _ => gSome (by rw [← y5]; rfl)
          | cons a W' =>
            obtain ⟨e, am, y2⟩ := y2
            simp only at e
            subst e
            rw [List.length_cons] at y1
            simp only [toNat_nat, shl_nat', xor_nat]
            exact gIte (fun _ => gChk (by omega) (gChk (by omega) (gSome ⟨by omega, W', t ^^^ 2 ^ a, by omega, y2, rfl, Nat.xor_lt_two_pow y4 (pow_lt (by omega)), y5⟩))) fun z => absurd (by omega) z
        · rintro _ rfl
          have e8 := cnt8 h8 hxl
          refine gSome ⟨rfl, xo W s, rfl, hxl, by rw [w3, e8], by rw [w4, e8], by omega⟩
  · rintro (v11 | rr) hz
    · obtain ⟨Q, hBI⟩ := hz
      obtain ⟨U, u1, u2⟩ := hBI.bar hA hB hs (by rw [x1, c8]) (by rw [x2, c8])
      have hCl := hBI.len
      refine gBind (R := fun _ => True) (gFor m (fun k (x : Int × Int) => x.2 = (k : Int)) (Nat.zero_le _) rfl ?_) fun _ _ => gSome (.inr ⟨rfl, rfl, U, u1, by omega⟩)
      rintro k ⟨v, _⟩ hk rfl
      simp only [toNat_nat]
      exact gIte (fun _ => gChk (by omega) (gIte (fun _ => gChk (by omega) (gSome ⟨by omega, by simp⟩)) fun _ => gSome ⟨by omega, by simp⟩)) fun _ => gSome trivial
    · exact gSome (.inl hz)
end
end Go.SH

set_option linter.unusedSimpArgs false
set_option linter.unusedVariables false
namespace Go.SH
open Go Go.AX

theorem ranks_ok {m : Nat} {B : List Nat} (h : Mat m B) : meet_ranks m (cs B) = some (cs (rkL m B)) := by
  unfold meet_ranks
  rw [axioms_Ranks_ok h]; rfl
theorem both_ok {m : Nat} {A B : List Nat} (hA : Mat m A) (hB : Mat m B) : meet_both m (cs A) m (cs B) = some 0 := by
  unfold meet_both
  rw [hA.check, Option.bind_some, hB.check, Option.bind_some, if_neg (by simp), if_neg (by simp), if_neg (by simp)]
def Two (n : Int) (l : List Int) (n' : Int) (l' : List Int) : Prop := ∃ (m : Nat) (A B : List Nat), n = (m : Int) ∧ l = cs A ∧ n' = (m : Int) ∧ l' = cs B ∧ Mat m A ∧ Mat m B
theorem both_spec (n : Int) (l : List Int) (n' : Int) (l' : List Int) (hl : l.length ≤ 9223372036854775807) (hl' : l'.length ≤ 9223372036854775807) : ∃ c, meet_both n l n' l' = some c ∧ ((c = 0 ∧ Two n l n' l') ∨ (c ≠ 0 ∧ ¬ Two n l n' l')) := by
  obtain ⟨c, hc, hs⟩ := axioms_Check_spec n l hl
  obtain ⟨c', hc', hs'⟩ := axioms_Check_spec n' l' hl'
  rcases hs with ⟨rfl, m, A, rfl, rfl, hA⟩ | ⟨h0, hn⟩
  rotate_left
  · refine ⟨c, ?_, .inr ⟨h0, fun ⟨m, A, B, e1, e2, _, _, hA, _⟩ => hn ⟨m, A, e1, e2, hA⟩⟩⟩
    unfold meet_both
    rw [hc, Option.bind_some, hc', Option.bind_some, if_pos h0]
  rcases hs' with ⟨rfl, m', B, rfl, rfl, hB⟩ | ⟨h0, hn⟩
  rotate_left
  · refine ⟨c', ?_, .inr ⟨h0, fun ⟨m, A, B, _, _, e1, e2, _, hB⟩ => hn ⟨m, B, e1, e2, hB⟩⟩⟩
    unfold meet_both
    rw [hc, Option.bind_some, hc', Option.bind_some, if_neg (by simp), if_pos h0]
  rcases Classical.em (m = m') with rfl | hne
  · exact ⟨0, both_ok hA hB, .inl ⟨rfl, m, A, B, rfl, rfl, rfl, rfl, hA, hB⟩⟩
  · refine ⟨3, ?_, .inr ⟨by simp, fun ⟨k, _, _, e1, _, e2, _⟩ => hne (by omega)⟩⟩
    unfold meet_both
    rw [hA.check, Option.bind_some, hB.check, Option.bind_some, if_neg (by simp), if_neg (by simp), if_pos (by omega)]
theorem Common_bad {n : Int} {l : List Int} {n' : Int} {l' : List Int} {c : Int} (h : meet_both n l n' l' = some c) (h0 : c ≠ 0) : meet_Common n l n' l' = some (0, 0, c) := by
  unfold meet_Common
  rw [h, Option.bind_some, if_pos h0]
section
variable {m : Nat} {A B : List Nat} (hA : Mat m A) (hB : Mat m B)
include hA hB
/-- Free in both, and so large. -/
def Both (m : Nat) (A B : List Nat) (k t : Nat) : Prop := cnt m t = k ∧ rk m A t = k ∧ rk m B t = k
theorem both_le {s t : Nat} (hs : s < 2 ^ m) (x1 : rk m A s = cnt m s) (x2 : rk m B s = cnt m s) : cnt m s ≤ rk m A t + rk m B (cpl m t) := by
  have i1 := ((hA.ind_iff hs).2 x1).mono (inc_and_l s t)
  have i2 := ((hB.ind_iff hs).2 x2).mono (inc_dif s t)
  have k1 := hA.ind_le i1 (inc_and_r s t)
  have k2 := hB.ind_le i2 (s := cpl m t) (fun i hi => by
    rw [testBit_dif, Bool.and_eq_true] at hi
    rw [cpl_bit]
    simp [bit_lt hs hi.1]
    simpa using hi.2)
  have := cnt_split m s t
  omega
theorem Common_ok : ∃ S U : Nat, meet_Common m (cs A) m (cs B) = some ((S : Int), (U : Int), 0) ∧ S < 2 ^ m ∧ U < 2 ^ m ∧ rk m A S = cnt m S ∧ rk m B S = cnt m S ∧ rk m A U + rk m B (cpl m U) = cnt m S ∧ (∀ t, t < S → ¬ Both m A B (cnt m S) t) ∧ (∀ t, t < U → ¬ rk m A t + rk m B (cpl m t) = cnt m S) := by
  have h8 := hA.m8
  have h256 := pow_le8 h8
  have hp2 : 0 < 2 ^ m := Nat.pow_pos (by omega)
  suffices Gets (meet_Common m (cs A) m (cs B)) (fun r => ∃ S U : Nat, r = ((S : Int), (U : Int), 0) ∧ S < 2 ^ m ∧ U < 2 ^ m ∧ rk m A S = cnt m S ∧ rk m B S = cnt m S ∧ rk m A U + rk m B (cpl m U) = cnt m S ∧ (∀ t, t < S → ¬ Both m A B (cnt m S) t) ∧ (∀ t, t < U → ¬ rk m A t + rk m B (cpl m t) = cnt m S)) by
    obtain ⟨r, e, S, U, rfl, h⟩ := this
    exact ⟨S, U, e, h⟩
  unfold meet_Common
  refine gBindE (both_ok hA hB) (gIte (fun q => absurd rfl q) fun _ => gBindE (ranks_ok hA) (gBindE (ranks_ok hB) ?_))
  refine gBind (R := fun v => ∃ s : Nat, v = (s : Int) ∧ s < 2 ^ m ∧ rk m A s = cnt m s ∧ rk m B s = cnt m s ∧ ∃ U, U < 2 ^ m ∧ rk m A (cpl m U) + rk m B U ≤ cnt m s) (gFor (m + 2) (fun k (x : Int × Bool) => ∃ s : Nat, x.1 = (s : Int) ∧ s < 2 ^ m ∧ rk m A s = cnt m s ∧ rk m B s = cnt m s ∧ ((x.2 = true ∧ cnt m s = k) ∨ (x.2 = false ∧ ∃ U, U < 2 ^ m ∧ rk m A (cpl m U) + rk m B U ≤ cnt m s))) (Nat.zero_le _) ⟨0, rfl, hp2, by rw [hA.rk_zero, cnt_zero], by rw [hB.rk_zero, cnt_zero], .inl ⟨rfl, cnt_zero m⟩⟩ ?_) ?_
  · rintro k ⟨_, v1⟩ hk ⟨s, rfl, s1, s2, s3, s4⟩
    have hcm := cnt_le m s
    rcases s4 with ⟨e, s4⟩ | ⟨e, s4⟩
    · simp only at e
      subst e
      refine gIte (fun _ => ?_) fun q => absurd rfl q
      refine gBind (grown_spec hA hB s1 s2 s3) ?_
      rintro ⟨y1, y2, y3⟩ (⟨e, t, e1, t1, t2, t3, t4⟩ | ⟨e, e1, U, u1, u2⟩)
      · simp only at e e1
        exact gSome ⟨by omega, t, e1, t1, t2, t3, .inl ⟨e, by omega⟩⟩
      · simp only at e e1
        exact gSome ⟨by omega, s, e1, s1, s2, s3, .inr ⟨e, U, u1, u2⟩⟩
    · simp only at e
      subst e
      exact gIte (fun q => absurd q (by simp)) fun _ => gSome ⟨s, rfl, s1, s2, s3, s4⟩
  rintro _ ⟨s, rfl, s1, s2, s3, U0, u1, u2⟩
  refine gBindE (meet_size_nat (by omega)) ?_
  rw [size_of_lt s1 h8]
  refine gBind (R := fun v => ∃ S : Nat, v = (S : Int) ∧ S < 2 ^ m ∧ Both m A B (cnt m s) S ∧ ∀ t, t < S → ¬ Both m A B (cnt m s) t) (gFor (2 ^ m) (fun k v => v = (k : Int) ∧ ∀ t, t < k → ¬ Both m A B (cnt m s) t) (Nat.zero_le _) ⟨rfl, none_all⟩ ?_) ?_
  · rintro k _ hk ⟨rfl, hall⟩
    simp only [cs_len, rkL_len, toNat_nat, cs_get]
    refine gIte (fun h1 => ?_) fun h1 => ?_
    · have hk' : k < 2 ^ m := by omega
      refine gBindE (meet_size_nat (by omega)) (gChk (by omega) ?_)
      rw [size_of_lt hk' h8, rkL_get m A hk', rkL_get m B hk']
      refine gIte (fun q => gSome ⟨k, rfl, hk', ⟨by omega, by omega, by omega⟩, hall⟩) fun q => gSome ⟨hk', by simp, step_all hall fun z => q ⟨⟨by have := z.1; omega, by have := z.2.1; omega⟩, by have := z.2.2; omega⟩⟩
    · have e : k = 2 ^ m := by omega
      subst e
      exact absurd ⟨rfl, s2, s3⟩ (hall s s1)
  rintro _ ⟨S, rfl, S1, ⟨S2, S3, S4⟩, S5⟩
  have hle := both_le hA hB s1 s2 s3 (t := cpl m U0)
  rw [cpl_cpl u1] at hle
  have e1 : (((2 ^ m : Nat) : Int) - 1) = ((2 ^ m - 1 : Nat) : Int) := by omega
  refine gBind (R := fun v => ∃ U : Nat, v = (U : Int) ∧ U < 2 ^ m ∧ rk m A U + rk m B (cpl m U) = cnt m s ∧ ∀ t, t < U → ¬ rk m A t + rk m B (cpl m t) = cnt m s) (gFor (2 ^ m) (fun k v => v = (k : Int) ∧ ∀ t, t < k → ¬ rk m A t + rk m B (cpl m t) = cnt m s) (Nat.zero_le _) ⟨rfl, none_all⟩ ?_) ?_
  · rintro k _ hk ⟨rfl, hall⟩
    simp only [cs_len, rkL_len, e1]
    refine gIte (fun h1 => ?_) fun h1 => ?_
    · have hk' : k < 2 ^ m := by omega
      have e3 : iandnot ((2 ^ m - 1 : Nat) : Int) (k : Int) = ((cpl m k : Nat) : Int) := dif_nat _ _
      have hc := cpl_lt m k
      simp only [e3, toNat_nat, cs_get, rkL_get m A hk', rkL_get m B hc]
      have b1 := hA.rk_size k
      have b2 := hB.rk_size (cpl m k)
      have b3 := cnt_le m k
      have b4 := cnt_le m (cpl m k)
      refine gChk (by omega) (gIte (fun q => gSome ⟨k, rfl, hk', by omega, hall⟩) fun q => gSome ⟨hk', by simp, step_all hall (by omega)⟩)
    · have e : k = 2 ^ m := by omega
      subst e
      exact absurd (by rw [cpl_cpl u1]; omega) (hall (cpl m U0) (cpl_lt _ _))
  rintro _ ⟨U, rfl, U1, U2, U3⟩
  exact gSome ⟨S, U, rfl, S1, U1, by omega, by omega, by rw [S2]; exact U2, by rw [S2]; exact S5, by rw [S2]; exact U3⟩
end
end Go.SH
