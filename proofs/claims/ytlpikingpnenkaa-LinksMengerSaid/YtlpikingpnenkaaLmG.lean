/-
 MENGER: ways that keep apart. Vertices that separate have one on each way; where no fewer than all beginnings separate there are ways from each. Conditions: none.
-/
import Derived.Test.YtlpikingpnenkaaLmF
set_option linter.unusedSimpArgs false
set_option linter.unusedVariables false
namespace Go.SH
open Go Go.AX
/-- A list's elements added to a set. -/
def addl (g : Nat) : List Nat → Nat
 | [] => g
 | w :: r => addl (g ||| 2 ^ w) r
/-- A way on from u, without what is gone, with an end in t. -/
def Wy (N : Nat) (E : List (Int × Int)) (t : Nat) : Nat → Nat → List Nat → Prop
 | _, u, [] => t.testBit u = true
 | g, u, w :: r => w < N ∧ g.testBit w = false ∧ Edge E u w ∧ Wy N E t (g ||| 2 ^ w) w r
/-- Ways from each of some, which keep apart. -/
def Sys (N : Nat) (E : List (Int × Int)) (t : Nat) : List Nat → Nat → List (List Nat) → Prop
 | [], _, [] => True
 | a :: A, g, p :: ps => g.testBit a = false ∧ ∃ r, p = a :: r ∧ Wy N E t (g ||| 2 ^ a) a r ∧ Sys N E t A (addl (g ||| 2 ^ a) r) ps
 | _, _, _ => False
section
variable {N s t : Nat} {E : List (Int × Int)}
theorem bit_add (g w i : Nat) : (g ||| 2 ^ w).testBit i = true ↔ g.testBit i = true ∨ w = i := by
 rw [Nat.testBit_or, testBit_pow, Bool.or_eq_true, decide_eq_true_eq]
theorem addl_lt {g : Nat} {r : List Nat} (hg : g < 2 ^ N) (hr : ∀ w, w ∈ r → w < N) : addl g r < 2 ^ N := by
 induction r generalizing g with
 | nil => exact hg
 | cons w r ih => exact ih (or_lt hg (Nat.pow_lt_pow_right (by omega) (hr w List.mem_cons_self))) fun x hx => hr x (List.mem_cons_of_mem _ hx)
theorem Wy.lt {g u : Nat} {r : List Nat} (h : Wy N E t g u r) : ∀ w, w ∈ r → w < N := by
 induction r generalizing g u with
 | nil => intro w hw; cases hw
 | cons x r ih =>
  intro w hw
  rcases List.mem_cons.1 hw with rfl | q
  ·exact h.1
  ·exact ih h.2.2.2 w q
theorem addl_mono {g : Nat} {r : List Nat} {i : Nat} (h : g.testBit i = true) : (addl g r).testBit i = true := by
 induction r generalizing g with
 | nil => exact h
 | cons w r ih => exact ih ((bit_add g w i).2 (.inl h))
/-- A set W closed but for C. -/
structure Clos (N : Nat) (E : List (Int × Int)) (s t C W : Nat) : Prop where
 beg : ∀ i, s.testBit i = true → C.testBit i = false → W.testBit i = true
 step : ∀ a b, W.testBit a = true → Edge E a b → C.testBit b = false → W.testBit b = true
 fin : ∀ i, W.testBit i = true → t.testBit i = false
theorem Wy.hit {C W : Nat} (hc : Clos N E s t C W) {g u : Nat} {r : List Nat} (h : Wy N E t g u r) (hu : W.testBit u = true) : ∃ x, x ∈ r ∧ C.testBit x = true ∧ g.testBit x = false := by
 induction r generalizing g u with
 | nil => have := hc.fin u hu; rw [show t.testBit u = true from h] at this; cases this
 | cons w r ih =>
  obtain ⟨h1, h2, h3, h4⟩ := h
  cases q : C.testBit w with
  | true => exact ⟨w, List.mem_cons_self, q, h2⟩
  | false =>
   obtain ⟨x, x1, x2, x3⟩ := ih h4 (hc.step u w hu h3 q)
   refine ⟨x, List.mem_cons_of_mem _ x1, x2, ?_⟩
   cases c : g.testBit x with
   | false => rfl
   | true => rw [(bit_add g w x).2 (.inl c)] at x3; cases x3
theorem mem_addl {g : Nat} {r : List Nat} {i : Nat} (h : i ∈ r) : (addl g r).testBit i = true := by
 induction r generalizing g with
 | nil => cases h
 | cons w r ih =>
  rcases List.mem_cons.1 h with rfl | q
  ·exact addl_mono (g := g ||| 2 ^ i) ((bit_add g i i).2 (.inr rfl))
  ·exact ih q
theorem Sys.le {C W : Nat} (hC : C < 2 ^ N) (hc : Clos N E s t C W) : ∀ {A : List Nat} {g : Nat} {ps : List (List Nat)}, Sys N E t A g ps → (∀ a, a ∈ A → s.testBit a = true) → A.length ≤ cnt N (dif C g)
 | [], _, _, _, _ => Nat.zero_le _
 | _ :: _, _, [], h, _ => h.elim
 | a :: A, g, p :: ps, h, hA => by
  obtain ⟨h1, r, rfl, h2, h3⟩ := h
  have ih := Sys.le hC hc h3 fun x hx => hA x (List.mem_cons_of_mem _ hx)
  obtain ⟨x, x1, x2, x3⟩ : ∃ x, (addl (g ||| 2 ^ a) r).testBit x = true ∧ C.testBit x = true ∧ g.testBit x = false := by
   cases q : C.testBit a with
   | true => exact ⟨a, addl_mono ((bit_add g a a).2 (.inr rfl)), q, h1⟩
   | false =>
    obtain ⟨x, x1, x2, x3⟩ := h2.hit hc (hc.beg a (hA a List.mem_cons_self) q)
    refine ⟨x, mem_addl x1, x2, ?_⟩
    cases c : g.testBit x with
    | false => rfl
    | true => rw [(bit_add g a x).2 (.inl c)] at x3; cases x3
  have hxN : x < N := bit_lt hC x2
  have hb : (dif C (addl (g ||| 2 ^ a) r)).testBit x = false := by rw [testBit_dif, x1]; simp
  have h5 := cnt_add hxN hb
  have h6 : cnt N (dif C (addl (g ||| 2 ^ a) r) ||| 2 ^ x) ≤ cnt N (dif C g) := cnt_mono fun i hi hb => by
   rcases (bit_add _ _ _).1 hb with q | rfl
   ·rw [testBit_dif, Bool.and_eq_true, Bool.not_eq_true'] at q ⊢
    refine ⟨q.1, ?_⟩
    cases c : g.testBit i with
    | false => rfl
    | true => rw [addl_mono ((bit_add g a i).2 (.inl c))] at q; cases q.2
   ·rw [testBit_dif, x2, x3]; rfl
  simp only [List.length_cons]
  omega
/-! ### ways out of representatives -/
variable {G : Nat → Nat}
/-- A map along edges, one-to-one, never to a beginning. -/
structure Nx (N : Nat) (E : List (Int × Int)) (s t : Nat) (G : Nat → Nat) : Prop where
 lt : ∀ v, v < N → t.testBit v = false → G v < N
 out : ∀ v, v < N → t.testBit v = false → s.testBit (G v) = false
 ed : ∀ v, v < N → t.testBit v = false → G v = v ∨ Edge E v (G v)
 inj : ∀ v w, v < N → w < N → t.testBit v = false → t.testBit w = false → G v = G w → v = w
theorem way_ex (hG : Nx N E s t G) : ∀ (k g u : Nat), N ≤ cnt N g + k → g < 2 ^ N → u < N → g.testBit u = true → (∀ x, x < N → t.testBit x = false → g.testBit (G x) = true → g.testBit x = true ∧ x ≠ u) →
  ∃ r, Wy N E t g u r ∧ addl g r < 2 ^ N ∧ (∀ x, x < N → t.testBit x = false → (addl g r).testBit (G x) = true → (addl g r).testBit x = true) ∧ ∀ i, s.testBit i = true → (addl g r).testBit i = true → g.testBit i = true := by
 intro k
 induction k with
 | zero =>
  intro g u hk hg hu hgu hB
  cases ht : t.testBit u with
  | true => exact ⟨[], ht, hg, fun x h1 h2 h3 => (hB x h1 h2 h3).1, fun i _ h => h⟩
  | false =>
   exfalso
   have : ∀ i, i < N → g.testBit i = true := fun i hi => by
    cases q : g.testBit i with
    | true => rfl
    | false => have := cnt_add hi q; have := cnt_le N (g ||| 2 ^ i); omega
   exact (hB u hu ht (this _ (hG.lt u hu ht))).2 rfl
 | succ k ih =>
  intro g u hk hg hu hgu hB
  cases ht : t.testBit u with
  | true => exact ⟨[], ht, hg, fun x h1 h2 h3 => (hB x h1 h2 h3).1, fun i _ h => h⟩
  | false =>
   have hw := hG.lt u hu ht
   have hwg : g.testBit (G u) = false := by
    cases q : g.testBit (G u) with
    | false => rfl
    | true => exact absurd rfl (hB u hu ht q).2
   have hed : Edge E u (G u) := by
    rcases hG.ed u hu ht with e | e
    ·rw [e, hgu] at hwg; cases hwg
    ·exact e
   have hc := cnt_add hw hwg
   obtain ⟨r, r1, r2, r3, r4⟩ := ih (g ||| 2 ^ G u) (G u) (by omega) (or_lt hg (Nat.pow_lt_pow_right (by omega) hw)) hw ((bit_add _ _ _).2 (.inr rfl)) fun x h1 h2 h3 => by
    rcases (bit_add _ _ _).1 h3 with q | q
    ·obtain ⟨a, b⟩ := hB x h1 h2 q
     exact ⟨(bit_add _ _ _).2 (.inl a), fun e => by rw [← e, a] at hwg; cases hwg⟩
    ·have : x = u := hG.inj x u h1 hu h2 ht q.symm
     subst this
     exact ⟨(bit_add _ _ _).2 (.inl hgu), fun e => by rw [← e, hgu] at hwg; cases hwg⟩
   refine ⟨G u :: r, ⟨hw, hwg, hed, r1⟩, r2, r3, fun i hi hb => ?_⟩
   rcases (bit_add _ _ _).1 (r4 i hi hb) with q | q
   ·exact q
   ·have := hG.out u hu ht
    rw [q, hi] at this; cases this
theorem sys_ex (hG : Nx N E s t G) : ∀ (A : List Nat) (g : Nat), g < 2 ^ N → A.Nodup → (∀ a, a ∈ A → a < N ∧ s.testBit a = true ∧ g.testBit a = false) → (∀ x, x < N → t.testBit x = false → g.testBit (G x) = true → g.testBit x = true) → ∃ ps, Sys N E t A g ps
 | [], _, _, _, _, _ => ⟨[], trivial⟩
 | a :: A, g, hg, hd, hA, hB => by
  obtain ⟨a1, a2, a3⟩ := hA a List.mem_cons_self
  have hd' := List.nodup_cons.1 hd
  obtain ⟨r, r1, r2, r3, r4⟩ := way_ex hG N (g ||| 2 ^ a) a (by omega) (or_lt hg (Nat.pow_lt_pow_right (by omega) a1)) a1 ((bit_add _ _ _).2 (.inr rfl)) fun x h1 h2 h3 => by
   rcases (bit_add _ _ _).1 h3 with q | q
   ·have := hB x h1 h2 q
    exact ⟨(bit_add _ _ _).2 (.inl this), fun e => by rw [e, a3] at this; cases this⟩
   ·have := hG.out x h1 h2
    rw [← q, a2] at this; cases this
  obtain ⟨ps, hps⟩ := sys_ex hG A (addl (g ||| 2 ^ a) r) r2 hd'.2 (fun b hb => by
   obtain ⟨b1, b2, b3⟩ := hA b (List.mem_cons_of_mem _ hb)
   refine ⟨b1, b2, ?_⟩
   cases q : (addl (g ||| 2 ^ a) r).testBit b with
   | false => rfl
   | true =>
    rcases (bit_add _ _ _).1 (r4 b b2 q) with c | c
    ·rw [c] at b3; cases b3
    ·subst c; exact absurd hb hd'.1) r3
  exact ⟨(a :: r) :: ps, a3, r, rfl, r1, hps⟩
/-- Where each cut has as many as there are beginnings there are ways. -/
theorem menger (h : CG (N : Int) E) (hs : s < 2 ^ N) (hc : ∀ S : Nat → Bool, S 0 = true → S 1 = false → ((cnt N s : Nat) : Int) ≤ outS (2 + 2 * N) (lay E s t N E.length) S) {A : List Nat} (hd : A.Nodup) (hA : ∀ a, a ∈ A → a < N ∧ s.testBit a = true) : ∃ ps, Sys N E t A 0 ps := by
 classical
 have hn7 := h.n7
 -- the vertices outside t, in order
 let o : Nat → Nat := fun k => (elm N (cpl N t)).getD k 0
 let L : List Nat := (List.range (cnt N (cpl N t))).map fun k => mkset N fun x => decide (x = o k ∨ Edge E (o k) x)
 have hL : L.length = cnt N (cpl N t) := by simp [L]
 have hget : ∀ k, k < L.length → L.getD k 0 = mkset N fun x => decide (x = o k ∨ Edge E (o k) x) := fun k hk => by
  rw [List.getD_eq_getElem?_getD, List.getElem?_eq_getElem hk]
  simp [L]
 have hO : Out N E o L := fun k hk x => by
  rw [hget k hk, mkset_bit, Bool.and_eq_true, decide_eq_true_eq, decide_eq_true_eq]
 have hok : HOk N L := Out.hok h hL hO
 have ho : ∀ k, k < L.length → o k < N ∧ t.testBit (o k) = false := fun k hk => by
  rw [hL] at hk
  have a := elm_lt (n := N) (s := cpl N t) hk
  have b := elm_bit (n := N) (s := cpl N t) hk
  rw [cpl_bit, Bool.and_eq_true, Bool.not_eq_true'] at b
  exact ⟨a, b.2⟩
 have hnd : (elm N (cpl N t)).Nodup := (List.nodup_range).filter _
 have hoi : ∀ j k, j < L.length → k < L.length → o j = o k → j = k := fun j k hj hk e => by
  rw [hL, ← elm_len] at hj hk
  exact getD_inj hnd hj hk e
 obtain ⟨g, g1, g2⟩ := cut_sdr h.ends.1 hs hok ho hoi hO hc
 have hex : ∀ v, v < N → t.testBit v = false → ∃ k, k < L.length ∧ o k = v := fun v hv ht => by
  have hm : v ∈ elm N (cpl N t) := by
   unfold elm
   rw [List.mem_filter]
   exact ⟨List.mem_range.2 hv, by rw [cpl_bit, ht]; simp [hv]⟩
  obtain ⟨k, k1, k2⟩ := mem_getD' hm
  exact ⟨k, by rw [hL, ← elm_len]; exact k1, k2⟩
 let G : Nat → Nat := fun v => if q : ∃ k, k < L.length ∧ o k = v then g (Classical.choose q) else v
 have hGv : ∀ v, v < N → t.testBit v = false → ∃ k, k < L.length ∧ o k = v ∧ G v = g k := fun v hv ht => by
  have q := hex v hv ht
  have c := Classical.choose_spec q
  exact ⟨_, c.1, c.2, dif_pos q⟩
 have hNx : Nx N E s t G := by
  refine ⟨fun v hv ht => ?_, fun v hv ht => ?_, fun v hv ht => ?_, fun v w hv hw htv htw e => ?_⟩
  ·obtain ⟨k, k1, k2, k3⟩ := hGv v hv ht
   rw [k3]; exact ((hO k k1 _).1 (g1 k k1).1).1
  ·obtain ⟨k, k1, k2, k3⟩ := hGv v hv ht
   rw [k3]; exact (g1 k k1).2
  ·obtain ⟨k, k1, k2, k3⟩ := hGv v hv ht
   rw [k3]
   have := ((hO k k1 _).1 (g1 k k1).1).2
   rw [k2] at this; exact this
  ·obtain ⟨k, k1, k2, k3⟩ := hGv v hv htv
   obtain ⟨j, j1, j2, j3⟩ := hGv w hw htw
   have : k = j := g2 k j k1 j1 (by rw [← k3, ← j3, e])
   rw [← k2, ← j2, this]
 exact sys_ex hNx A 0 (Nat.pow_pos (by omega)) hd (fun a ha => ⟨(hA a ha).1, (hA a ha).2, by simp⟩) fun x _ _ q => by simp at q
end
end Go.SH
