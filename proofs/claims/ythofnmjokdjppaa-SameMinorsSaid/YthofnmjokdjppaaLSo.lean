/-
  Minors as they are sought, and chains of them. Conditions: at most eight elements.
-/
import Derived.Test.YthofnmjokdjppaaLSn
set_option linter.unusedSimpArgs false
set_option linter.unusedVariables false
namespace Go.SH
open Go Go.AX

theorem im_comp {m k j : Nat} {f g : Nat → Nat} (hg : ∀ i, i < j → g i < k) (s : Nat) : im m k f (im k j g s) = im m j (fun i => f (g i)) s := bx fun x => by
  rw [Bool.eq_iff_iff, im_bit, im_bit]
  refine and_congr Iff.rfl ⟨fun ⟨i, i1, i2, i3⟩ => ?_, fun ⟨i, i1, i2, i3⟩ => ⟨g i, hg i i1, (im_bit ..).2 ⟨hg i i1, i, i1, i2, rfl⟩, i3⟩⟩
  obtain ⟨_, q, q1, q2, q3⟩ := (im_bit ..).1 i2
  exact ⟨q, q1, q2, by show f (g q) = x; rw [q3]; exact i3⟩
theorem im_congr {m k : Nat} {f g : Nat → Nat} (h : ∀ i, i < k → f i = g i) (s : Nat) : im m k f s = im m k g s := bx fun x => by
  rw [Bool.eq_iff_iff, im_bit, im_bit]
  exact and_congr Iff.rfl ⟨fun ⟨i, i1, i2, i3⟩ => ⟨i, i1, i2, by rw [← h i i1]; exact i3⟩, fun ⟨i, i1, i2, i3⟩ => ⟨i, i1, i2, by rw [h i i1]; exact i3⟩⟩
theorem im_id {n s : Nat} (hs : s < 2 ^ n) : im n n (fun i => i) s = s := bx fun x => by
  rw [Bool.eq_iff_iff, im_bit]
  exact ⟨fun ⟨_, i, _, i2, i3⟩ => by rw [← i3]; exact i2, fun h => ⟨bit_lt hs h, x, bit_lt hs h, h, rfl⟩⟩
theorem cnt_fullK (k : Nat) : cnt k (2 ^ k - 1) = k := by
  have := cpl_cnt (m := k) (s := 0)
  rw [cnt_zero] at this
  have e2 : cpl k 0 = 2 ^ k - 1 := bx fun i => by rw [cpl_bit, full_bit]; simp
  rw [e2] at this; omega
theorem same_im {m k : Nat} {f g : Nat → Nat} (hg : Pla m k g) (e : im m k f (2 ^ k - 1) = im m k g (2 ^ k - 1)) : ∃ π : Nat → Nat, Pla k k π ∧ ∀ i, i < k → f (π i) = g i := by
  have h1 : ∀ i, ∃ j, i < k → j < k ∧ f j = g i := fun i => by
    rcases Nat.lt_or_ge i k with c | c
    · have : (im m k g (2 ^ k - 1)).testBit (g i) = true := (im_bit ..).2 ⟨hg.lt i c, i, c, by rw [full_bit]; simp [c], rfl⟩
      rw [← e] at this
      obtain ⟨_, j, j1, _, j3⟩ := (im_bit ..).1 this
      exact ⟨j, fun _ => ⟨j1, j3⟩⟩
    · exact ⟨0, fun z => absurd z (by omega)⟩
  obtain ⟨π, hπ⟩ := Classical.axiomOfChoice h1
  refine ⟨π, ⟨fun i hi => (hπ i hi).1, fun i j hi hj q => hg.inj i j hi hj ?_⟩, fun i hi => (hπ i hi).2⟩
  rw [← (hπ i hi).2, ← (hπ j hj).2, q]
theorem Pla.onto {n : Nat} {π : Nat → Nat} (h : Pla n n π) : im n n π (2 ^ n - 1) = 2 ^ n - 1 := by
  refine inc_eq_of_cnt (m := n) (fun x hx => ?_) (full_lt n) ?_
  · rw [full_bit]; simpa using bit_lt (im_lt ..) hx
  · rw [h.cnt _ (full_lt n)]; exact Nat.le_refl _
theorem pla_id (n : Nat) : Pla n n (fun i => i) := ⟨fun _ h => h, fun _ _ _ _ e => e⟩
theorem Iso.symm {n : Nat} {X Y : Nat → Nat} (h : Iso n X Y) : Iso n Y X := by
  obtain ⟨π, p1, p2⟩ := h
  obtain ⟨τ, t1, t2⟩ := same_im (f := π) (pla_id n) (by rw [p1.onto, im_id (full_lt n)])
  refine ⟨τ, t1, fun s hs => ?_⟩
  rw [p2 _ (im_lt ..), im_comp t1.lt, im_congr t2, im_id hs]
theorem Mat.mem_iff {m : Nat} {B : List Nat} (h : Mat m B) (s : Nat) : s ∈ B ↔ s < 2 ^ m ∧ rk m B s = cnt m s ∧ rk m B s = rk m B (2 ^ m - 1) := by
  have hf : ∀ b, b ∈ B → (2 ^ m - 1) &&& b = b := fun b hb => by
    rw [Nat.and_comm]
    exact inc_and_self fun x hx => by rw [full_bit]; simpa using bit_lt (h.lt b hb) hx
  have hb : ∀ b, b ∈ B → rk m B b = cnt m b := fun b hb => by
    have h1 := le_rk (m := m) (s := b) hb
    have h2 := h.rk_size b
    rw [Nat.and_self] at h1; omega
  have hfull : ∀ b, b ∈ B → rk m B (2 ^ m - 1) = cnt m b := fun b hb => by
    obtain ⟨b', h1, h2⟩ := h.rk_mem (2 ^ m - 1)
    rw [h2, hf b' h1]; exact h.eqc b' h1 b hb
  constructor
  · intro hs; exact ⟨h.lt s hs, hb s hs, by rw [hb s hs, hfull s hs]⟩
  · rintro ⟨h1, h2, h3⟩
    obtain ⟨b, b1, b2⟩ := (h.ind_iff h1).2 h2
    have := inc_eq_of_cnt b2 (h.lt b b1) (by rw [← hfull b b1]; omega)
    subst this; exact b1
theorem Fam.nodup {m : Nat} {B : List Nat} (h : Fam m B) : B.Nodup := by
  refine List.pairwise_iff_getElem.2 fun i j hi hj hij => ?_
  have := h.rise i j hij hj
  rw [List.getD_eq_getElem?_getD, List.getD_eq_getElem?_getD, List.getElem?_eq_getElem hi, List.getElem?_eq_getElem hj] at this
  exact Nat.ne_of_lt this
theorem inj_len {g : Nat → Nat} : ∀ (K C : List Nat), K.Nodup → (∀ a, a ∈ K → ∀ b, b ∈ K → g a = g b → a = b) → (∀ a, a ∈ K → g a ∈ C) → K.length ≤ C.length
  | [], C, _, _, _ => Nat.zero_le _
  | a :: K, C, h1, h2, h3 => by
    have hc : g a ∈ C := h3 a List.mem_cons_self
    have hn := List.nodup_cons.1 h1
    have := inj_len K (C.erase (g a)) hn.2 (fun x hx y hy => h2 x (List.mem_cons_of_mem _ hx) y (List.mem_cons_of_mem _ hy)) fun x hx => by
      refine (List.mem_erase_of_ne fun q => ?_).2 (h3 x (List.mem_cons_of_mem _ hx))
      have := h2 x (List.mem_cons_of_mem _ hx) a List.mem_cons_self q
      subst this; exact hn.1 hx
    rw [List.length_erase_of_mem hc] at this
    have : 0 < C.length := List.length_pos_of_mem hc
    rw [List.length_cons]; omega
theorem Pla.im_inj {m k : Nat} {f : Nat → Nat} (h : Pla m k f) {s t : Nat} (hs : s < 2 ^ k) (ht : t < 2 ^ k) (e : im m k f s = im m k f t) : s = t :=
  set_ext hs ht fun i hi => by rw [← h.bit hi, ← h.bit (s := t) hi, e]
theorem Iso.len {k : Nat} {K C : List Nat} (hK : Mat k K) (hC : Mat k C) (h : Iso k (rk k K) (rk k C)) : K.length ≤ C.length := by
  obtain ⟨π, p1, p2⟩ := h
  refine inj_len (g := im k k π) K C hK.toFam.nodup (fun a ha b hb e => p1.im_inj (hK.lt a ha) (hK.lt b hb) e) fun a ha => ?_
  obtain ⟨h1, h2, h3⟩ := (hK.mem_iff a).1 ha
  refine (hC.mem_iff _).2 ⟨im_lt .., by rw [← p2 a h1, p1.cnt a h1]; exact h2, ?_⟩
  rw [← p2 a h1, h3, p2 _ (full_lt k), p1.onto]
/-- A minor, with what goes. -/
def EmbAt (m k : Nat) (RA RB : Nat → Nat) (d c : Nat) : Prop := c &&& d = 0 ∧ ∃ f : Nat → Nat, Pla m k f ∧ im m k f (2 ^ k - 1) = cpl m (d ||| c) ∧ ∀ s, s < 2 ^ k → RB s + RA c = RA (im m k f s ||| c)
theorem emb_iff {m k : Nat} {RA RB : Nat → Nat} : Emb m k RA RB ↔ ∃ d c, d < 2 ^ m ∧ c < 2 ^ m ∧ EmbAt m k RA RB d c := by
  constructor
  · rintro ⟨f, c, f1, c1, fc, fr⟩
    have hd : ∀ x, (im m k f (2 ^ k - 1)).testBit x = true → c.testBit x = false := fun x hx => by
      obtain ⟨_, i, i1, _, i3⟩ := (im_bit ..).1 hx
      rw [← i3]; exact fc i i1
    refine ⟨cpl m (im m k f (2 ^ k - 1) ||| c), c, cpl_lt _ _, c1, bx fun x => ?_, f, f1, set_ext (im_lt ..) (cpl_lt _ _) fun x hx => ?_, fr⟩
    · rw [Nat.testBit_and, cpl_bit, Nat.testBit_or]
      cases c.testBit x <;> simp
    · rw [cpl_bit, Nat.testBit_or, cpl_bit, Nat.testBit_or]
      have := hd x
      cases q : (im m k f (2 ^ k - 1)).testBit x <;> cases q2 : c.testBit x <;> simp [hx]
      rw [q, q2] at this
      exact absurd (this rfl) (by simp)
  · rintro ⟨d, c, d1, c1, hdc, f, f1, f2, f3⟩
    refine ⟨f, c, f1, c1, fun i hi => ?_, f3⟩
    have : (im m k f (2 ^ k - 1)).testBit (f i) = true := (im_bit ..).2 ⟨f1.lt i hi, i, hi, by rw [full_bit]; simp [hi], rfl⟩
    rw [f2, cpl_bit, Nat.testBit_or] at this
    cases q : c.testBit (f i) with
    | false => rfl
    | true => rw [q] at this; simp at this
theorem EmbAt.size {m k : Nat} {RA RB : Nat → Nat} {d c : Nat} (h : EmbAt m k RA RB d c) : cnt m (cpl m (d ||| c)) = k := by
  obtain ⟨_, f, f1, f2, _⟩ := h
  rw [← f2, f1.cnt _ (full_lt k), cnt_fullK]
theorem EmbAt.full {m k : Nat} {RA RB : Nat → Nat} {d c : Nat} (h : EmbAt m k RA RB d c) : RB (2 ^ k - 1) + RA c = RA (cpl m (d ||| c) ||| c) := by
  obtain ⟨_, f, f1, f2, f3⟩ := h
  rw [f3 _ (full_lt k), f2]
section
variable {m k : Nat} {R X Y : Nat → Nat} {d c : Nat} {g : Nat → Nat} (hg : Pla m k g) (e : im m k g (2 ^ k - 1) = cpl m (d ||| c)) (hX : ∀ s, s < 2 ^ k → X s + R c = R (im m k g s ||| c))
include hg e hX
theorem EmbAt.iso (h : EmbAt m k R Y d c) : Iso k X Y := by
  obtain ⟨_, f, f1, f2, f3⟩ := h
  obtain ⟨π, p1, p2⟩ := same_im (f := f) hg (by rw [f2, e])
  refine ⟨π, p1, fun s hs => ?_⟩
  have h1 := hX s hs
  have h2 := f3 _ (im_lt k k π s)
  rw [im_comp p1.lt, im_congr p2] at h2
  omega
theorem embAt_of_iso (hd : c &&& d = 0) (h : Iso k X Y) : EmbAt m k R Y d c := by
  obtain ⟨τ, t1, t2⟩ := h.symm
  refine ⟨hd, fun i => g (τ i), ⟨fun i hi => hg.lt _ (t1.lt i hi), fun i j hi hj q => t1.inj i j hi hj (hg.inj _ _ (t1.lt i hi) (t1.lt j hj) q)⟩, ?_, fun s hs => ?_⟩
  · rw [← im_comp t1.lt, t1.onto, e]
  · rw [t2 s hs, hX _ (im_lt ..), im_comp t1.lt]
end
/-- The first minor found. -/
def Fnd (m k : Nat) (RA RB : Nat → Nat) (r : Int × Int × Int) : Prop := ∃ d c : Nat, r = ((d : Int), (c : Int), 0) ∧ d < 2 ^ m ∧ c < 2 ^ m ∧ EmbAt m k RA RB d c ∧ (∀ d', d' < d → ∀ c', c' < 2 ^ m → ¬ EmbAt m k RA RB d' c') ∧ ∀ c', c' < c → ¬ EmbAt m k RA RB d c'
theorem Fnd.emb {m k : Nat} {RA RB : Nat → Nat} {r : Int × Int × Int} (h : Fnd m k RA RB r) : r.2.2 = 0 ∧ Emb m k RA RB := by
  obtain ⟨d, c, rfl, h1, h2, h3, _⟩ := h
  exact ⟨rfl, emb_iff.2 ⟨d, c, h1, h2, h3⟩⟩
theorem Minor_okk {m k : Nat} {A C : List Nat} (hA : Mat m A) (hC : Mat k C) : Gets (same_Minor (m : Int) (cs A) (k : Int) (cs C)) (fun r => Fnd m k (rk m A) (rk k C) r ∨ (r = (0, 0, 5) ∧ ¬ Emb m k (rk m A) (rk k C))) := by
  have h8 := hA.m8
  have hp8 := pow_le8 h8
  have k8 := hC.m8
  have kp8 := pow_le8 k8
  have m0 : 0 < 2 ^ m := Nat.pow_pos (by omega)
  have k0 : 0 < 2 ^ k := Nat.pow_pos (by omega)
  have er : ∀ {n : Nat} {B : List Nat}, Mat n B → same_ranks (n : Int) (cs B) = some (cs (rkL n B)) := fun hB => by unfold same_ranks; rw [axioms_Ranks_ok hB]; rfl
  unfold same_Minor
  refine gBindE hA.check (gBindE hC.check (gIte (fun q => absurd rfl q) fun _ => gIte (fun q => absurd rfl q) fun _ => gBindE (er hA) (gBindE (er hC) ?_)))
  have e1 : (((2 ^ k : Nat) : Int) - 1) = ((2 ^ k - 1 : Nat) : Int) := by omega
  have e2 : (((2 ^ m : Nat) : Int) - 1) = ((2 ^ m - 1 : Nat) : Int) := by omega
  simp only [toNat_nat, shl_nat', e1, e2, cs_len, rkL_len]
  refine gChk (by omega) (gChk (by omega) (gChk (by omega) (gChk (by omega) ?_)))
  refine gBind (R := fun z => match z with | .inl _ => ¬ Emb m k (rk m A) (rk k C) | .inr r => Fnd m k (rk m A) (rk k C) r) (gFor (2 ^ m) (fun d (x : Int) => x = (d : Int) ∧ ∀ d', d' < d → ∀ c, c < 2 ^ m → ¬ EmbAt m k (rk m A) (rk k C) d' c) (Nat.zero_le _) ⟨rfl, none_all⟩ ?_) ?_
  rotate_left
  · rintro (u | r) hz
    · exact gSome (.inr ⟨rfl, hz⟩)
    · exact gSome (.inl hz)
  rintro d _ hd ⟨rfl, hD⟩
  refine gIte (fun h1 => gChk (by omega) ?_) fun h1 => gSome ?_
  rotate_left
  · show ¬ Emb _ _ _ _
    rw [emb_iff]
    rintro ⟨d', c', z1, z2, z3⟩
    exact hD d' (by omega) c' z2 z3
  have hd' : d < 2 ^ m := by omega
  refine gBind (R := fun z => match z with | .inl _ => ∀ c, c < 2 ^ m → ¬ EmbAt m k (rk m A) (rk k C) d c | .inr r => Fnd m k (rk m A) (rk k C) r) (gFor (2 ^ m) (fun c (x : Int) => x = (c : Int) ∧ ∀ c', c' < c → ¬ EmbAt m k (rk m A) (rk k C) d c') (Nat.zero_le _) ⟨rfl, none_all⟩ ?_) ?_
  rotate_left
  · rintro (u | r) hz
    · exact gSome ⟨hd', by simp, step_all hD hz⟩
    · exact gSome hz
  rintro c _ hc ⟨rfl, hI⟩
  refine gIte (fun h2 => gChk (by omega) ?_) fun h2 => gSome fun c' hc' => hI c' (by omega)
  have hc' : c < 2 ^ m := by omega
  have hnext : ¬ EmbAt m k (rk m A) (rk k C) d c → c < 2 ^ m ∧ ((c : Int) + 1 = ((c + 1 : Nat) : Int) ∧ ∀ c', c' < c + 1 → ¬ EmbAt m k (rk m A) (rk k C) d c') := fun q => ⟨hc', by simp, step_all hI q⟩
  simp only [or_nat, and_nat, dif_nat, toNat_nat, cs_get]
  rw [show dif (2 ^ m - 1) (d ||| c) = cpl m (d ||| c) from rfl]
  have hl := cpl_lt m (d ||| c)
  generalize hL : cpl m (d ||| c) = left at *
  have hlc := or_lt hl hc'
  refine gBind (R := fun y => c &&& d = 0 → y = ((cnt m left : Nat) : Int)) ?_ fun y hy => ?_
  · refine gIte (fun q => ?_) fun q => gSome fun z => absurd z (by omega)
    have := ones_spec (s := left) (by omega)
    rw [cnt_of_lt hl h8] at this
    exact this.mono fun _ z _ => z
  have r1 := hA.rk_size (left ||| c)
  have r2 := hA.rk_size c
  have r3 := cnt_le m (left ||| c)
  have r4 := cnt_le m c
  have r5 := hA.rkF.mono c (left ||| c) (inc_or_r _ _)
  rw [rkL_get m A hlc, rkL_get m A hc', rkL_get k C (full_lt k)]
  refine gChk ⟨fun _ => by omega, fun _ => by omega, fun _ => by omega⟩ (gIte (fun q => gSome (hnext fun z => ?_)) fun q => ?_)
  · rcases q with (q | q) | q
    · exact q (by rw [z.1]; rfl)
    · have := z.size
      rw [hL] at this
      rw [hy z.1] at q; omega
    · have := z.full
      rw [hL] at this
      omega
  have hcd : c &&& d = 0 := by
    rcases Nat.eq_zero_or_pos (c &&& d) with w | w
    · exact w
    · exact absurd (.inl (.inl (by omega))) q
  have hk : cnt m left = k := by
    have := hy hcd
    subst this
    rcases Classical.em (cnt m left = k) with w | w
    · exact w
    · exact absurd (.inl (.inr (by omega))) q
  refine gBind (restricted_spec hA hl hc') ?_
  rintro _ ⟨K, rfl, hK, hR⟩
  dsimp only
  have hal : (atL m left).length = k := by rw [at_len, hk]
  have hg := at_pla m left
  have hgf := at_full hl
  rw [hal] at hK hR hg hgf ⊢
  replace hgf := hgf.trans hL.symm
  refine gIte (fun q2 => gSome (hnext fun z => ?_)) fun q2 => ?_
  · have hi := EmbAt.iso hg hgf hR z
    have l1 := hi.len hK hC
    have l2 := hi.symm.len hC hK
    rw [cs_len] at q2; omega
  refine gBind (Isomorphic_spec hK hC) ?_
  rintro ⟨o, er⟩ (⟨y1, _, y2⟩ | ⟨y1, y2⟩)
  · dsimp only at y1; subst y1
    exact gIte (fun _ => gSome ⟨d, c, rfl, hd', hc', embAt_of_iso hg hgf hR hcd y2, hD, hI⟩) fun w => absurd rfl w
  · dsimp only at y1; subst y1
    refine gIte (fun w => absurd w (by omega)) fun _ => gSome (hnext fun z => y2 ⟨rfl, ?_, EmbAt.iso hg hgf hR z⟩)
    rw [cs_len] at q2; omega
theorem Minor_ok {m k : Nat} {A C : List Nat} (hA : Mat m A) (hC : Mat k C) : Gets (same_Minor (m : Int) (cs A) (k : Int) (cs C)) (fun r => (r.2.2 = 0 ∧ Emb m k (rk m A) (rk k C)) ∨ (r.2.2 = 5 ∧ ¬ Emb m k (rk m A) (rk k C))) := by
  refine (Minor_okk hA hC).mono ?_
  rintro r (h | ⟨rfl, h⟩)
  · exact .inl h.emb
  · exact .inr ⟨rfl, h⟩
theorem Minor_spec {n n' : Int} {l l' : List Int} (h1 : l.length ≤ 9223372036854775807) (h2 : l'.length ≤ 9223372036854775807) : Gets (same_Minor n l n' l') (fun r => r.2.2 = 0 ↔ ∃ m A k C, n = ((m : Nat) : Int) ∧ l = cs A ∧ n' = ((k : Nat) : Int) ∧ l' = cs C ∧ Mat m A ∧ Mat k C ∧ Emb m k (rk m A) (rk k C)) := by
  obtain ⟨c1, e1, g1⟩ := axioms_Check_spec n l h1
  obtain ⟨c2, e2, g2⟩ := axioms_Check_spec n' l' h2
  rcases g1 with ⟨rfl, m, A, rfl, rfl, hA⟩ | ⟨y1, y2⟩
  · rcases g2 with ⟨rfl, k, C, rfl, rfl, hC⟩ | ⟨y1, y2⟩
    · refine (Minor_ok hA hC).mono ?_
      rintro r (⟨z1, z2⟩ | ⟨z1, z2⟩)
      · exact ⟨fun _ => ⟨m, A, k, C, rfl, rfl, rfl, rfl, hA, hC, z2⟩, fun _ => z1⟩
      · refine ⟨fun w => by omega, ?_⟩
        rintro ⟨m', A', k', C', w1, w2, w3, w4, _, _, w7⟩
        have := cs_inj w2; have := cs_inj w4
        obtain rfl : m = m' := by omega
        obtain rfl : k = k' := by omega
        subst A'; subst C'
        exact absurd w7 z2
    · unfold same_Minor
      refine gBindE e1 (gBindE e2 (gIte (fun q => absurd rfl q) fun _ => gIte (fun _ => gSome ⟨fun w => absurd w y1, ?_⟩) fun q => absurd y1 q))
      rintro ⟨m', A', k', C', w1, w2, w3, w4, _, w6, w7⟩
      exact absurd ⟨k', C', w3, w4, w6⟩ y2
  · unfold same_Minor
    refine gBindE e1 (gBindE e2 (gIte (fun _ => gSome ⟨fun w => absurd w y1, ?_⟩) fun q => absurd y1 q))
    rintro ⟨m', A', k', C', w1, w2, w3, w4, w5, _, w7⟩
    exact absurd ⟨m', A', w1, w2, w5⟩ y2
end Go.SH
