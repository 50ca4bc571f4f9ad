/-
  CHARI: of a matroid H rises to its middle, and is no greater at its beginning than as far from its end: by taking series classes off. Conditions: at most eight elements.
-/
import Derived.Test.YtkjfccdfmjnkbaaLRk
import Derived.Test.YtkjfccdfmjnkbaaLCb
set_option linter.unusedSimpArgs false
set_option linter.unusedVariables false
namespace Go.SH
open Go Go.AX

/-! ### sums -/
theorem sumN_head (n : Nat) (g : Nat → Int) : sumN (n + 1) g = g 0 + sumN n (fun i => g (i + 1)) := by
  induction n with
  | zero => simp [sumN]
  | succ n ih => rw [sumN, ih]; simp only [sumN]; omega
theorem sumN_rv (n : Nat) (g : Nat → Int) : sumN n (fun i => g (n - (i + 1))) = sumN n g := by
  induction n with
  | zero => rfl
  | succ n ih =>
    rw [sumN_head]
    simp only [sumN]
    rw [sumN_congr (h := fun i => g (n - (i + 1))) fun i hi => by congr 1; omega, ih]
    simp only [Nat.zero_add, Nat.add_sub_cancel]; omega
noncomputable def ind (p : Prop) : Int := @ite _ p (Classical.propDecidable p) 1 0
theorem ind_pos {p : Prop} (h : p) : ind p = 1 := by unfold ind; exact if_pos h
theorem ind_neg {p : Prop} (h : ¬ p) : ind p = 0 := by unfold ind; exact if_neg h
theorem ind_congr {p q : Prop} (h : p ↔ q) : ind p = ind q := by rw [propext h]

/-! ### from f to h -/
def hq (f : Nat → Int) (d k : Nat) : Int := sumN (k + 1) fun i => sg (k - i) * (f i * ((bin (d - i) (k - i) : Nat) : Int))
def shf (b : Nat → Int) (i : Nat) : Int := if i = 0 then 0 else b (i - 1)
theorem bin_zero (n : Nat) : bin n 0 = 1 := by cases n <;> rfl
theorem bin_gt : ∀ (n k : Nat), n < k → bin n k = 0
  | 0, 0, h => absurd h (by omega)
  | 0, k + 1, _ => rfl
  | n + 1, 0, h => absurd h (by omega)
  | n + 1, k + 1, h => by simp only [bin]; rw [bin_gt n k (by omega), bin_gt n (k + 1) (by omega)]
theorem hq_congr {f g : Nat → Int} (h : ∀ i, f i = g i) (d k : Nat) : hq f d k = hq g d k := by rw [funext h]
theorem hq_add (f g : Nat → Int) (d k : Nat) : hq (fun i => f i + g i) d k = hq f d k + hq g d k := by
  unfold hq
  rw [← sumN_add]
  exact sumN_congr fun i _ => by rw [Int.add_mul, Int.mul_add]
theorem hq_shf_zero (b : Nat → Int) (d : Nat) : hq (shf b) d 0 = 0 := by simp [hq, sumN, shf]
theorem hq_shf (b : Nat → Int) (d k : Nat) : hq (shf b) (d + 1) (k + 1) = hq b d k := by
  unfold hq
  rw [sumN_head]
  have e : shf b 0 = 0 := rfl
  rw [e, Int.zero_mul, Int.mul_zero, Int.zero_add]
  refine sumN_congr fun i _ => ?_
  rw [Nat.add_sub_add_right, Nat.add_sub_add_right]
  rfl
theorem hq_cone {g : Nat → Int} {d : Nat} (hg : ∀ i, d < i → g i = 0) (k : Nat) : hq (fun i => g i + shf g i) (d + 1) k = hq g d k := by
  rw [hq_add]
  cases k with
  | zero => rw [hq_shf_zero]; simp [hq, sumN, bin_zero]
  | succ k =>
    rw [hq_shf]
    unfold hq
    rw [sumN, sumN.eq_2 (n := k + 1)]
    simp only [Nat.sub_self, bin_zero]
    have e : sumN (k + 1) (fun i => sg (k + 1 - i) * (g i * ((bin (d + 1 - i) (k + 1 - i) : Nat) : Int))) = sumN (k + 1) (fun i => sg (k + 1 - i) * (g i * ((bin (d - i) (k + 1 - i) : Nat) : Int))) + - sumN (k + 1) (fun i => sg (k - i) * (g i * ((bin (d - i) (k - i) : Nat) : Int))) := by
      rw [← sumN_neg, ← sumN_add]
      refine sumN_congr fun i hi => ?_
      rcases Nat.lt_or_ge d i with c | c
      · rw [hg i c]; simp
      · rw [show d + 1 - i = (d - i) + 1 by omega, show k + 1 - i = (k - i) + 1 by omega, sg_succ]
        simp only [bin]
        rw [Int.natCast_add, Int.mul_add, Int.mul_add, Int.neg_mul, Int.neg_mul]
        omega
    rw [e]
    omega
theorem hq_gt {f : Nat → Int} {d k : Nat} (h : d < k) (hf : ∀ i, d < i → f i = 0) : hq f d k = 0 := by
  unfold hq
  rw [sumN_congr (h := fun _ => 0) fun i hi => ?_, sumN_zero]
  rcases Nat.lt_or_ge d i with c | c
  · rw [hf i c]; simp
  · rw [bin_gt (d - i) (k - i) (by omega)]; simp

/-! ### independent sets of each size -/
noncomputable def fS (r : Nat → Nat) (G k : Nat) : Int := sumN (2 ^ 8) fun s => ind (Inc s G ∧ r s = cnt 8 s ∧ cnt 8 s = k)
theorem inc_off {s G e : Nat} : Inc s (dif G (2 ^ e)) ↔ Inc s G ∧ s.testBit e = false := by
  constructor
  · intro h
    refine ⟨h.trans (inc_dif _ _), ?_⟩
    cases c : s.testBit e with
    | false => rfl
    | true => have := h e c; rw [testBit_dif, testBit_pow] at this; simp at this
  · rintro ⟨h, h0⟩ i hi
    rw [testBit_dif, testBit_pow, h i hi]
    rcases Classical.em (e = i) with c | c
    · subst c; rw [h0] at hi; cases hi
    · simp [c]
theorem inc_on {s G e : Nat} (he : G.testBit e = true) : Inc (s ||| 2 ^ e) G ↔ Inc s G := ⟨fun h => (inc_or_l _ _).trans h, fun h => inc_or h (inc_pow he)⟩
theorem xor_on {s e : Nat} (h : s.testBit e = false) : s ^^^ 2 ^ e = s ||| 2 ^ e := bx fun j => by
  rw [Nat.testBit_xor, Nat.testBit_or, testBit_pow]
  rcases Classical.em (e = j) with c | c
  · subst c; simp [h]
  · simp [c]
theorem xor_bit {s e : Nat} : (s ^^^ 2 ^ e).testBit e = !s.testBit e := by rw [Nat.testBit_xor, testBit_pow]; simp
theorem fS_split (r : Nat → Nat) {G e : Nat} (he : e < 8) (hG : G.testBit e = true) (k : Nat) : fS r G k = fS r (dif G (2 ^ e)) k + sumN (2 ^ 8) fun s => ind (Inc s (dif G (2 ^ e)) ∧ r (s ||| 2 ^ e) = cnt 8 s + 1 ∧ cnt 8 s + 1 = k) := by
  have e1 : sumN (2 ^ 8) (fun s => ind (Inc s (dif G (2 ^ e)) ∧ r (s ||| 2 ^ e) = cnt 8 s + 1 ∧ cnt 8 s + 1 = k)) = sumN (2 ^ 8) (fun s => ind (s.testBit e = true ∧ Inc s G ∧ r s = cnt 8 s ∧ cnt 8 s = k)) := by
    rw [← sumN_turn 8 e (fun s => ind (s.testBit e = true ∧ Inc s G ∧ r s = cnt 8 s ∧ cnt 8 s = k)) he]
    refine sumN_congr fun s hs => ind_congr ?_
    rw [xor_bit, inc_off]
    cases c : s.testBit e with
    | true => simp
    | false => rw [xor_on c, inc_on hG, cnt_add he c]; simp
  rw [e1]
  unfold fS
  rw [← sumN_add]
  refine sumN_congr fun s hs => ?_
  cases c : s.testBit e with
  | true =>
    rw [ind_neg (p := Inc s (dif G (2 ^ e)) ∧ _) (fun q => by have := (inc_off.1 q.1).2; rw [c] at this; cases this), Int.zero_add]
    exact ind_congr ⟨fun q => ⟨rfl, q⟩, fun q => q.2⟩
  | false =>
    rw [ind_neg (p := false = true ∧ _) (fun q => by cases q.1), Int.add_zero]
    refine ind_congr ?_
    rw [inc_off]
    exact ⟨fun q => ⟨⟨q.1, c⟩, q.2⟩, fun q => ⟨q.1.1, q.2⟩⟩

def ctr (r : Nat → Nat) (e : Nat) (s : Nat) : Nat := r (s ||| 2 ^ e) - 1
theorem RkF.ctrF {r : Nat → Nat} (h : RkF r) {e : Nat} (he : r (2 ^ e) = 1) : RkF (ctr r e) := h.contract he
theorem fS_dc {r : Nat → Nat} (h : RkF r) {G e : Nat} (he : e < 8) (hG : G.testBit e = true) (h1 : r (2 ^ e) = 1) (k : Nat) : fS r G k = fS r (dif G (2 ^ e)) k + shf (fS (ctr r e) (dif G (2 ^ e))) k := by
  rw [fS_split r he hG]
  refine congrArg (fun z => fS r (dif G (2 ^ e)) k + z) ?_
  have pos : ∀ s, 1 ≤ r (s ||| 2 ^ e) := fun s => by rw [← h1]; exact h.mono _ _ (inc_or_r _ _)
  unfold shf
  split
  · rename_i c
    subst c
    rw [sumN_congr (h := fun _ => 0) fun s _ => ind_neg (fun q => by have := q.2.2; omega), sumN_zero]
  · rename_i c
    unfold fS
    refine sumN_congr fun s hs => ind_congr ?_
    have := pos s
    unfold Go.SH.ctr
    exact ⟨fun q => ⟨q.1, by omega, by omega⟩, fun q => ⟨q.1, by omega, by omega⟩⟩
theorem fS_loop {r : Nat → Nat} (h : RkF r) {G e : Nat} (he : e < 8) (hG : G.testBit e = true) (h1 : r (2 ^ e) = 0) (k : Nat) : fS r G k = fS r (dif G (2 ^ e)) k := by
  rw [fS_split r he hG, sumN_congr (h := fun _ => 0) fun s hs => ind_neg fun q => ?_, sumN_zero, Int.add_zero]
  have := q.2.1
  rw [h.loop h1] at this
  have := h.le hs
  omega
theorem off_on {G e : Nat} (hG : G.testBit e = true) : dif G (2 ^ e) ||| 2 ^ e = G := dif_or hG
/-- A coloop raises each set's rank. -/
theorem RkF.colo {r : Nat → Nat} (h : RkF r) {G e : Nat} (hG : G.testBit e = true) (hc : r G = r (dif G (2 ^ e)) + 1) {s : Nat} (hs : Inc s (dif G (2 ^ e))) : r (s ||| 2 ^ e) = r s + 1 := by
  have h1 := h.sub (s ||| 2 ^ e) (dif G (2 ^ e))
  have e1 : s ||| 2 ^ e ||| dif G (2 ^ e) = G := by
    rw [Nat.or_comm s, Nat.or_assoc, (or_eq_iff s _).2 hs, Nat.or_comm, off_on hG]
  have e2 : (s ||| 2 ^ e) &&& dif G (2 ^ e) = s := bx fun j => by
    rw [Nat.testBit_and, Nat.testBit_or]
    cases c : s.testBit j with
    | true => rw [hs j c]; rfl
    | false =>
      rw [testBit_dif]
      cases (2 ^ e).testBit j <;> simp
  rw [e1, e2] at h1
  have := h.step s e
  omega
theorem fS_congr {r r' : Nat → Nat} {G : Nat} (h : ∀ s, Inc s G → r s = r' s) (k : Nat) : fS r G k = fS r' G k := by
  unfold fS
  exact sumN_congr fun s _ => ind_congr ⟨fun q => ⟨q.1, by rw [← h s q.1]; exact q.2.1, q.2.2⟩, fun q => ⟨q.1, by rw [h s q.1]; exact q.2.1, q.2.2⟩⟩
theorem fS_gt {r : Nat → Nat} (h : RkF r) {G : Nat} (i : Nat) (hi : r G < i) : fS r G i = 0 := by
  unfold fS
  rw [sumN_congr (h := fun _ => 0) fun s _ => ind_neg fun q => ?_, sumN_zero]
  have := h.mono _ _ q.1
  have := q.2.1
  have := q.2.2
  omega

/-! ### h -/
noncomputable def HI (r : Nat → Nat) (G : Nat) (x : Int) : Int := if x < 0 then 0 else hq (fS r G) (r G) x.toNat
theorem HI_neg (r : Nat → Nat) (G : Nat) (x : Int) (h : x < 0) : HI r G x = 0 := if_pos h
theorem HI_nat (r : Nat → Nat) (G k : Nat) : HI r G (k : Int) = hq (fS r G) (r G) k := by
  unfold HI
  rw [if_neg (by omega)]; rfl
theorem int_cases (x : Int) : x < 0 ∨ ∃ k : Nat, x = (k : Int) := by
  rcases Int.lt_or_le x 0 with c | c
  · exact .inl c
  · exact .inr ⟨x.toNat, by omega⟩
theorem HI_congr {r r' : Nat → Nat} {G : Nat} (h : ∀ s, Inc s G → r s = r' s) (x : Int) : HI r G x = HI r' G x := by
  unfold HI
  rw [h G (Inc.refl G), hq_congr (fS_congr h)]
theorem HI_dc {r : Nat → Nat} (h : RkF r) {G e : Nat} (he : e < 8) (hG : G.testBit e = true) (h1 : r (2 ^ e) = 1) (hn : r (dif G (2 ^ e)) = r G) (x : Int) : HI r G x = HI r (dif G (2 ^ e)) x + HI (ctr r e) (dif G (2 ^ e)) (x - 1) := by
  rcases int_cases x with c | ⟨k, rfl⟩
  · rw [HI_neg _ _ _ c, HI_neg _ _ _ c, HI_neg _ _ _ (by omega)]; rfl
  · have pos : 1 ≤ r G := by rw [← h1]; exact h.mono _ _ (inc_pow hG)
    have er : ctr r e (dif G (2 ^ e)) + 1 = r G := by
      unfold Go.SH.ctr
      rw [off_on hG]; omega
    rw [HI_nat, HI_nat, hq_congr (fS_dc h he hG h1), hq_add, hn]
    refine congrArg (fun z => hq (fS r (dif G (2 ^ e))) (r G) k + z) ?_
    cases k with
    | zero => rw [hq_shf_zero, HI_neg _ _ _ (by omega)]
    | succ k =>
      rw [show ((k + 1 : Nat) : Int) - 1 = (k : Int) by omega, HI_nat, ← er, hq_shf]
theorem HI_loop {r : Nat → Nat} (h : RkF r) {G e : Nat} (he : e < 8) (hG : G.testBit e = true) (h1 : r (2 ^ e) = 0) (x : Int) : HI r G x = HI r (dif G (2 ^ e)) x := by
  have er : r G = r (dif G (2 ^ e)) := by
    have := h.loop h1 (dif G (2 ^ e))
    rw [off_on hG] at this; exact this
  unfold HI
  rw [er, hq_congr (fS_loop h he hG h1)]
theorem pow_one {r : Nat → Nat} (h : RkF r) (e : Nat) : r (2 ^ e) ≤ 1 := by
  have := h.step 0 e
  rw [Nat.zero_or, h.zero] at this; exact this
theorem HI_colo {r : Nat → Nat} (h : RkF r) {G e : Nat} (he : e < 8) (hG : G.testBit e = true) (hc : r G = r (dif G (2 ^ e)) + 1) (x : Int) : HI r G x = HI r (dif G (2 ^ e)) x := by
  have h1 : r (2 ^ e) = 1 := by
    have := h.colo hG hc (inc_zero _)
    rw [Nat.zero_or, h.zero] at this; exact this
  unfold HI
  split
  · rfl
  · rw [hc, ← hq_cone (fun i hi => fS_gt h i hi)]
    refine hq_congr (fun k => ?_) _ _
    rw [fS_dc h he hG h1]
    refine congrArg (fun z => fS r (dif G (2 ^ e)) k + z) ?_
    unfold shf
    split
    · rfl
    · refine fS_congr (fun s hs => ?_) _
      unfold Go.SH.ctr
      rw [h.colo hG hc hs]; omega

/-! ### the shape -/
def EE (t : Int) (g : Int → Int) : Prop := ∀ a b : Int, a ≤ b → a + b ≤ t → g a ≤ g b
theorem EE.nn {t : Int} {g : Int → Int} (h : EE t g) (h0 : ∀ x, x < 0 → g x = 0) (b : Int) : 0 ≤ g b := by
  have := h (min (-1) (min b (t - b))) b (by omega) (by omega)
  rw [h0 _ (by omega)] at this
  exact this
theorem EE.congr {t : Int} {g g' : Int → Int} (h : EE t g) (e : ∀ x, g' x = g x) : EE t g' := fun a b h1 h2 => by rw [e, e]; exact h a b h1 h2
theorem EE.window {t : Int} {g : Int → Int} (h : EE t g) (k : Nat) : EE (t + k - 1) (fun x => sumN k (fun j => g (x - j))) := by
  intro a b hab hs
  show sumN k (fun j => g (a - j)) ≤ sumN k (fun j => g (b - j))
  rcases Int.lt_or_le (b - a) k with c | c
  · obtain ⟨d, hd⟩ : ∃ d : Nat, b = a + d := ⟨(b - a).toNat, by omega⟩
    subst hd
    obtain ⟨p, hp⟩ : ∃ p, k = p + d := ⟨k - d, by omega⟩
    have e1 : sumN k (fun j => g (a - j)) = sumN p (fun j => g (a - j)) + sumN d (fun i => g (a - ((p + i : Nat) : Int))) := by
      rw [hp, sumN_split]
    have e2 : sumN k (fun j => g (a + d - j)) = sumN d (fun j => g (a + d - j)) + sumN p (fun i => g (a - i)) := by
      rw [hp, Nat.add_comm, sumN_split]
      congr 1
      exact sumN_congr fun i _ => by congr 1; omega
    rw [e1, e2, ← sumN_rv d (fun j => g (a + d - j))]
    have : sumN d (fun i => g (a - ((p + i : Nat) : Int))) ≤ sumN d (fun i => g (a + d - ((d - (i + 1) : Nat) : Int))) := sumN_le fun i hi => h _ _ (by omega) (by omega)
    omega
  · rw [← sumN_rv k (fun j => g (b - j))]
    exact sumN_le fun i hi => h _ _ (by omega) (by omega)
theorem EE.shift {t : Int} {g : Int → Int} (h : EE t g) (k : Nat) : EE (t + k + k) (fun x => g (x - k)) := fun a b h1 h2 => h _ _ (by omega) (by omega)
theorem EE.weak {t u : Int} {g : Int → Int} (h : EE t g) (hu : u ≤ t) : EE u g := fun a b h1 h2 => h a b h1 (by omega)
theorem EE.add {t : Int} {g g' : Int → Int} (h : EE t g) (h' : EE t g') : EE t (fun x => g x + g' x) := fun a b h1 h2 => by
  have := h a b h1 h2
  have := h' a b h1 h2
  show g a + g' a ≤ g b + g' b
  omega

def NoCo (r : Nat → Nat) (G : Nat) : Prop := ∀ e, G.testBit e = true → r (dif G (2 ^ e)) = r G
theorem off_on2 {G e f : Nat} (hG : G.testBit e = true) (hf : f ≠ e) : dif (dif G (2 ^ e)) (2 ^ f) ||| 2 ^ e = dif G (2 ^ f) := bx fun j => by
  rw [Nat.testBit_or, testBit_dif, testBit_dif, testBit_dif, testBit_pow, testBit_pow]
  rcases Classical.em (e = j) with c | c
  · subst c; simp [hG, hf]
  · simp [c]
theorem NoCo.ctrN {r : Nat → Nat} {G e : Nat} (h : NoCo r G) (hG : G.testBit e = true) : NoCo (ctr r e) (dif G (2 ^ e)) := fun f hf => by
  rw [testBit_dif, testBit_pow] at hf
  have hne : f ≠ e := fun q => by subst q; simp at hf
  have hGf : G.testBit f = true := by
    cases c : G.testBit f with
    | true => rfl
    | false => rw [c] at hf; cases hf
  unfold Go.SH.ctr
  rw [off_on2 hG hne, off_on hG, h f hGf]
theorem dif_comm2 (G e f : Nat) : dif (dif G (2 ^ e)) (2 ^ f) = dif (dif G (2 ^ f)) (2 ^ e) := bx fun j => by
  simp only [testBit_dif]
  cases G.testBit j <;> cases (2 ^ e).testBit j <;> cases (2 ^ f).testBit j <;> rfl

def MainC (n : Nat) : Prop := ∀ (r : Nat → Nat) (G : Nat), RkF r → G < 2 ^ 8 → cnt 8 G ≤ n → NoCo r G → EE (r G) (HI r G)
def ClaimC (n : Nat) : Prop := ∀ (r : Nat → Nat) (G e : Nat), RkF r → G < 2 ^ 8 → cnt 8 G ≤ n → NoCo r G → G.testBit e = true → r (2 ^ e) = 1 →
  ∃ (k : Nat) (g' : Int → Int), 1 ≤ k ∧ EE (r G - k + 1) (HI r (dif G (2 ^ e))) ∧ EE (r G - k) g' ∧ ∀ x, HI r G x = sumN k (fun j => HI r (dif G (2 ^ e)) (x - j)) + g' (x - k)

theorem chari_claim {n : Nat} (hM : MainC n) (hC : ClaimC n) : ClaimC (n + 1) := by
  intro r G e h hG hn hco he h1
  have he8 : e < 8 := bit_lt hG he
  have hcd := cnt_dif hG he
  have hr := hco e he
  rcases Classical.em (NoCo r (dif G (2 ^ e))) with c | c
  · refine ⟨1, HI (ctr r e) (dif G (2 ^ e)), Nat.le_refl _, ?_, ?_, fun x => ?_⟩
    · have := hM r (dif G (2 ^ e)) h (dif_lt hG) (by omega) c
      rw [hr] at this
      exact this.weak (by omega)
    · have := hM (ctr r e) (dif G (2 ^ e)) (h.ctrF h1) (dif_lt hG) (by omega) (hco.ctrN he)
      refine this.weak ?_
      unfold Go.SH.ctr
      rw [off_on he]; omega
    · rw [HI_dc h he8 he h1 hr]
      simp [sumN]
  · obtain ⟨f, hf⟩ := Classical.not_forall.1 c
    obtain ⟨hfe, hfr⟩ := Classical.not_imp.1 hf
    have hGf : G.testBit f = true := inc_dif _ _ f hfe
    have hne : f ≠ e := fun q => by subst q; rw [testBit_dif, testBit_pow] at hfe; simp at hfe
    have hf8 : f < 8 := bit_lt hG hGf
    have hst := h.step (dif (dif G (2 ^ e)) (2 ^ f)) f
    rw [off_on hfe] at hst
    have hmo := h.mono _ _ (inc_dif (dif G (2 ^ e)) (2 ^ f))
    have hcol : r (dif G (2 ^ e)) = r (dif (dif G (2 ^ e)) (2 ^ f)) + 1 := by omega
    have hf1 : r (2 ^ f) = 1 := by
      have := h.colo hfe hcol (inc_zero _)
      rw [Nat.zero_or, h.zero] at this; exact this
    have hcf := cnt_dif hG hGf
    have hrf := hco f hGf
    have hef : (dif G (2 ^ f)).testBit e = true := by
      rw [testBit_dif, testBit_pow, he]; simp [hne]
    have hrG : ctr r f (dif G (2 ^ f)) + 1 = r G := by
      have : 1 ≤ r G := by omega
      unfold Go.SH.ctr
      rw [off_on hGf]; omega
    -- the three are one
    have g1 : ∀ x, HI r (dif G (2 ^ f)) x = HI r (dif G (2 ^ e)) x := fun x => by
      rw [HI_colo h hf8 hfe hcol, HI_colo h he8 hef (by rw [dif_comm2 G f e]; omega), dif_comm2 G f e]
    have g2 : ∀ x, HI (ctr r f) (dif (dif G (2 ^ f)) (2 ^ e)) x = HI r (dif G (2 ^ e)) x := fun x => by
      rw [HI_colo h hf8 hfe hcol, dif_comm2 G f e]
      refine HI_congr (fun s hs => ?_) x
      unfold Go.SH.ctr
      rw [h.colo hfe hcol hs]; omega
    have hnc := hco.ctrN hGf
    have hdc := HI_dc h hf8 hGf hf1 hrf
    rcases Nat.lt_or_ge (ctr r f (2 ^ e)) 1 with q | q
    · have hl := HI_loop (h.ctrF hf1) he8 hef (by omega)
      have hm := hM (ctr r f) (dif G (2 ^ f)) (h.ctrF hf1) (dif_lt hG) (by omega) hnc
      refine ⟨2, fun _ => 0, by omega, ?_, fun _ _ _ _ => Int.le_refl _, fun x => ?_⟩
      · refine (hm.congr fun x => ?_).weak (by omega)
        rw [hl x, g2 x]
      · rw [hdc x, hl, g2, g1]
        simp [sumN]
    · obtain ⟨k, g', k1, k2, k3, k4⟩ := hC (ctr r f) (dif G (2 ^ f)) e (h.ctrF hf1) (dif_lt hG) (by omega) hnc hef (by have := pow_one (h.ctrF hf1) e; omega)
      refine ⟨k + 1, g', by omega, (k2.congr fun x => (g2 x).symm).weak (by omega), k3.weak (by omega), fun x => ?_⟩
      rw [hdc x, k4, g1, sumN_head]
      rw [sumN_congr (h := fun i => HI r (dif G (2 ^ e)) (x - ((i + 1 : Nat) : Int))) fun i _ => by rw [g2]; congr 1; omega]
      rw [show x - 1 - (k : Int) = x - ((k + 1 : Nat) : Int) by omega, show x - ((0 : Nat) : Int) = x by omega]
      omega
theorem fS_empty (r : Nat → Nat) (h : RkF r) (k : Nat) : fS r 0 k = if k = 0 then 1 else 0 := by
  unfold fS
  have e : ∀ s, Inc s 0 ↔ s = 0 := fun s => ⟨fun q => q.antisymm (inc_zero s), fun q => by subst q; exact inc_zero 0⟩
  rw [sumN_congr (h := fun s => if s = 0 then (if k = 0 then 1 else 0) else 0) fun s _ => ?_, sumN_single (2 ^ 8) 0 _ (by omega)]
  rcases Classical.em (s = 0) with c | c
  · subst c
    rw [if_pos rfl]
    split
    · exact ind_pos ⟨inc_zero 0, by rw [h.zero, cnt_zero], by rw [cnt_zero]; omega⟩
    · exact ind_neg fun q => by have := q.2.2; rw [cnt_zero] at this; omega
  · rw [if_neg c]; exact ind_neg fun q => c ((e s).1 q.1)
theorem HI_empty (r : Nat → Nat) (h : RkF r) (x : Int) : HI r 0 x = if x = 0 then 1 else 0 := by
  rcases int_cases x with c | ⟨k, rfl⟩
  · rw [HI_neg _ _ _ c, if_neg (by omega)]
  · rw [HI_nat, hq_congr (fS_empty r h), h.zero]
    unfold hq
    rw [sumN_head]
    rw [sumN_congr (n := k) (h := fun _ => 0) fun i _ => by simp, sumN_zero]
    simp only [if_pos, Nat.sub_zero, Int.one_mul, Int.add_zero]
    cases k with
    | zero => simp [bin]; rfl
    | succ k => simp [bin]; omega
theorem main_zero : MainC 0 := by
  intro r G h hG hn hco
  have e0 : G = 0 := by
    rcases Classical.em (G = 0) with c | c
    · exact c
    · obtain ⟨i, hi⟩ := exists_bit c
      have := cnt_pos hG hi
      omega
  subst e0
  rw [h.zero]
  intro a b h1 h2
  rw [HI_empty r h, HI_empty r h]
  split <;> split <;> omega
theorem chari_main {n : Nat} (hM : MainC n) (hC : ClaimC (n + 1)) : MainC (n + 1) := by
  intro r G h hG hn hco
  rcases Classical.em (G = 0) with c | c
  · subst c; exact main_zero r 0 h (by omega) (by rw [cnt_zero]; omega) hco
  · obtain ⟨e, he⟩ := exists_bit c
    have he8 : e < 8 := bit_lt hG he
    have hcd := cnt_dif hG he
    have hr := hco e he
    rcases Nat.lt_or_ge (r (2 ^ e)) 1 with q | q
    · have q0 : r (2 ^ e) = 0 := by omega
      have := hM r (dif G (2 ^ e)) h (dif_lt hG) (by omega) (fun f hf => by
        have hne : f ≠ e := fun q => by subst q; rw [testBit_dif, testBit_pow] at hf; simp at hf
        rw [← h.loop q0, off_on2 he hne, hco f (inc_dif _ _ f hf), hr])
      rw [hr] at this
      exact this.congr (HI_loop h he8 he q0)
    · obtain ⟨k, g', k1, k2, k3, k4⟩ := hC r G e h hG hn hco he (by have := pow_one h e; omega)
      refine EE.congr ?_ k4
      refine EE.add ?_ ?_
      · exact (k2.window k).weak (by omega)
      · exact (k3.shift k).weak (by omega)
theorem chari_all : ∀ n, MainC n ∧ ClaimC n
  | 0 => ⟨main_zero, fun r G e h hG hn hco he => absurd (cnt_pos hG he) (by omega)⟩
  | n + 1 => ⟨chari_main (chari_all n).1 (chari_claim (chari_all n).1 (chari_all n).2), chari_claim (chari_all n).1 (chari_all n).2⟩
/-- CHARI. -/
theorem RkF.chari : ∀ (n : Nat) {r : Nat → Nat} {G : Nat}, RkF r → G < 2 ^ 8 → cnt 8 G ≤ n → ∃ s : Nat, s ≤ r G ∧ EE s (HI r G) ∧ ∀ x : Int, (s : Int) < x → HI r G x = 0
  | n, r, G, h, hG, hn => by
    rcases Classical.em (NoCo r G) with c | c
    · refine ⟨r G, Nat.le_refl _, (chari_all 8).1 r G h hG (cnt_le 8 G) c, fun x hx => ?_⟩
      obtain ⟨k, rfl⟩ : ∃ k : Nat, x = (k : Int) := ⟨x.toNat, by omega⟩
      rw [HI_nat]
      exact hq_gt (by omega) fun i hi => fS_gt h i hi
    · obtain ⟨e, he⟩ := Classical.not_forall.1 c
      obtain ⟨he, hr⟩ := Classical.not_imp.1 he
      have hst := h.step (dif G (2 ^ e)) e
      rw [off_on he] at hst
      have hmo := h.mono _ _ (inc_dif G (2 ^ e))
      have hcd := cnt_dif hG he
      match n, hn with
      | 0, hn => omega
      | n + 1, hn =>
        obtain ⟨s, s1, s2, s3⟩ := RkF.chari n h (dif_lt hG (b := 2 ^ e)) (by omega)
        have hc := HI_colo h (bit_lt hG he) he (by omega)
        exact ⟨s, by omega, s2.congr hc, fun x hx => by rw [hc, s3 x hx]⟩
end Go.SH
