/-
  Simple matroids, components, direct sums. Conditions: at most eight elements.
-/
import Derived.Test.YtcjhpcbipcdhiaaLPa
set_option linter.unusedSimpArgs false
set_option linter.unusedVariables false
namespace Go.SH
open Go Go.AX

/-! ### simple -/
theorem ps_ex {m g j : Nat} (hj : j < ps m g) : ∃ e, e < m ∧ g.testBit e = false ∧ ps e g = j := by
  have : (pk m g (2 ^ m - 1)).testBit j = true := by rw [pk_full, full_bit]; simpa using hj
  obtain ⟨i, h1, h2, _, h4⟩ := (pk_bit m g _ j).1 this
  exact ⟨i, h1, h2, h4⟩
theorem pk_pow {m g e : Nat} (he : e < m) (hg : g.testBit e = false) : pk m g (2 ^ e) = 2 ^ ps e g := Nat.eq_of_testBit_eq fun j => by
  rw [Bool.eq_iff_iff, pk_bit, testBit_pow, decide_eq_true_eq]
  constructor
  · rintro ⟨i, h1, h2, h3, h4⟩
    rw [testBit_pow, decide_eq_true_eq] at h3
    subst h3; exact h4
  · intro z; exact ⟨e, he, hg, by rw [testBit_pow]; simp, z⟩
theorem pk_or (m g s t : Nat) : pk m g (s ||| t) = pk m g s ||| pk m g t := Nat.eq_of_testBit_eq fun j => by
  rw [Bool.eq_iff_iff, Nat.testBit_or, Bool.or_eq_true, pk_bit, pk_bit, pk_bit]
  constructor
  · rintro ⟨i, h1, h2, h3, h4⟩
    rw [Nat.testBit_or, Bool.or_eq_true] at h3
    rcases h3 with h3 | h3
    · exact .inl ⟨i, h1, h2, h3, h4⟩
    · exact .inr ⟨i, h1, h2, h3, h4⟩
  · rintro (⟨i, h1, h2, h3, h4⟩ | ⟨i, h1, h2, h3, h4⟩)
    · exact ⟨i, h1, h2, by rw [Nat.testBit_or, h3]; rfl, h4⟩
    · exact ⟨i, h1, h2, by rw [Nat.testBit_or, h3, Bool.or_true], h4⟩
structure Smp (n : Nat) (K : List Nat) : Prop where
  pos : ∀ j, j < n → rk n K (2 ^ j) ≠ 0
  one : ∀ i j, i < j → j < n → ¬ Par n K i j
theorem Simple_smp {m : Nat} {B : List Nat} (h : Mat m B) {g : Nat} {K : List Nat} (hg : ∀ x, x < m → (g.testBit x = true ↔ rk m B (2 ^ x) = 0 ∨ ∃ f, f < x ∧ Par m B f x)) (hK : ∀ x, x ∈ K ↔ ∃ b, MaxK m B (cpl m g) b ∧ x = pk m g b) : Smp (ps m g) K := by
  have out : ∀ s, (∀ i, s.testBit i = true → g.testBit i = false) → dif s g = s := fun s hs => Nat.eq_of_testBit_eq fun i => by
    rw [testBit_dif]
    cases q : s.testBit i
    · rfl
    · rw [hs i q]; rfl
  have pw : ∀ e, g.testBit e = false → ∀ i, (2 ^ e).testBit i = true → g.testBit i = false := fun e he i hi => by
    rw [testBit_pow, decide_eq_true_eq] at hi
    subst hi; exact he
  have r1 : ∀ e, e < m → g.testBit e = false → rk (ps m g) K (2 ^ ps e g) = rk m B (2 ^ e) := fun e he hge => by
    rw [← pk_pow he hge, h.del_rk hK, out _ (pw e hge)]
  have r2 : ∀ e f, e < m → f < m → g.testBit e = false → g.testBit f = false → rk (ps m g) K (2 ^ ps e g ||| 2 ^ ps f g) = rk m B (2 ^ e ||| 2 ^ f) := fun e f he hf hge hgf => by
    rw [← pk_pow he hge, ← pk_pow hf hgf, ← pk_or, h.del_rk hK, out _ fun i hi => by
      rw [Nat.testBit_or, Bool.or_eq_true] at hi
      rcases hi with hi | hi
      · exact pw e hge i hi
      · exact pw f hgf i hi]
  have no : ∀ e, e < m → g.testBit e = false → rk m B (2 ^ e) ≠ 0 ∧ ∀ f, f < e → ¬ Par m B f e := fun e he hge => by
    constructor
    · intro z
      have := (hg e he).2 (.inl z)
      rw [hge] at this; cases this
    · intro f hf z
      have := (hg e he).2 (.inr ⟨f, hf, z⟩)
      rw [hge] at this; cases this
  refine ⟨fun j hj => ?_, fun i j hij hj => ?_⟩
  · obtain ⟨e, e1, e2, rfl⟩ := ps_ex hj
    rw [r1 e e1 e2]
    exact (no e e1 e2).1
  · obtain ⟨e, e1, e2, rfl⟩ := ps_ex hj
    obtain ⟨f, f1, f2, rfl⟩ := ps_ex (Nat.lt_trans hij hj)
    rintro ⟨p1, p2⟩
    rw [r1 e e1 e2, r1 f f1 f2] at p1
    rw [r2 f e f1 e1 f2 e2, r1 f f1 f2] at p2
    rcases Nat.lt_or_ge f e with c | c
    · exact (no e e1 e2).2 f c ⟨p1, p2⟩
    · have := ps_mono (g := g) c
      omega
theorem Simple_again {n : Nat} {K : List Nat} (h : Mat n K) (hs : Smp n K) : minors_Simple n (cs K) = some ((n : Int), cs K, 0) := by
  obtain ⟨g, K', k1, k2, k3, k4, k5⟩ := Simple_ok h
  have g0 : g = 0 := set_ext k2 (Nat.pow_pos (by omega)) fun i hi => by
    rw [Nat.zero_testBit]
    cases q : g.testBit i
    · rfl
    · rcases (k3 i hi).1 q with z | ⟨f, z1, z2⟩
      · exact absurd z (hs.pos i hi)
      · exact absurd z2 (hs.one f i z1 hi)
  subst g0
  have hp : ∀ e, ps e 0 = e := fun e => by have := ps_cnt e 0; rw [cnt_zero] at this; omega
  have hpk : ∀ b, b < 2 ^ n → pk n 0 b = b := fun b hb => Nat.eq_of_testBit_eq fun j => by
    rw [Bool.eq_iff_iff, pk_bit]
    constructor
    · rintro ⟨i, _, _, i3, i4⟩; rw [hp] at i4; subst i4; exact i3
    · intro z; exact ⟨j, bit_lt hb z, by simp, z, hp j⟩
  have e0 : cpl n 0 = 2 ^ n - 1 := Nat.eq_of_testBit_eq fun i => by rw [cpl_bit, full_bit]; simp
  have eK : K' = K := k4.toFam.ext h.toFam fun x => by
    rw [k5]
    have hand : ∀ b, b ∈ K → b &&& cpl n 0 = b := fun b hb => by rw [e0]; exact (sub_iff_and _ _).2 (full_inc (h.lt b hb))
    constructor
    · rintro ⟨b, hb, rfl⟩
      rw [hpk b (h.lt b hb.1)]; exact hb.1
    · intro hx
      exact ⟨x, ⟨hx, fun b' hb' => by rw [hand b' hb', hand x hx]; exact Nat.le_of_eq (h.eqc b' hb' x hx)⟩, (hpk x (h.lt x hx)).symm⟩
  rw [k1, hp, eK]
theorem Classes_smp {n : Nat} {K : List Nat} (h : Mat n K) (hs : Smp n K) : ∃ L, minors_Classes n (cs K) = some (cs L, 0) ∧ L.length = n := by
  obtain ⟨L, l1, l2, l3⟩ := Classes_ok h
  refine ⟨L, l1, ?_⟩
  have hc : ∀ e, e < n → cls n K e = 2 ^ e := fun e he => Nat.eq_of_testBit_eq fun j => by
    rw [Bool.eq_iff_iff, cls_bit, testBit_pow, decide_eq_true_eq]
    constructor
    · rintro ⟨j1, j2⟩
      rcases Nat.lt_trichotomy e j with c | c | c
      · exact absurd j2 (hs.one e j c j1)
      · exact c
      · exact absurd j2.symm (hs.one j e c he)
    · rintro rfl; exact ⟨he, Par.refl _ _ _⟩
  have hnd : ((List.range n).map fun e => 2 ^ e).Nodup := by
    unfold List.Nodup
    rw [List.pairwise_map]
    refine List.nodup_range.imp fun {a b} hne he => hne ?_
    have : (2 ^ b).testBit a = true := by rw [← he, testBit_pow]; simp
    rw [testBit_pow, decide_eq_true_eq] at this
    exact this.symm
  have hp : L.Perm ((List.range n).map fun e => 2 ^ e) := (List.perm_ext_iff_of_nodup l2.nodupP hnd).2 fun s => by
    rw [l3, List.mem_map]
    constructor
    · rintro ⟨e, e1, rfl⟩; exact ⟨e, List.mem_range.2 e1, (hc e e1).symm⟩
    · rintro ⟨e, e1, rfl⟩
      have := List.mem_range.1 e1
      exact ⟨e, this, (hc e this).symm⟩
  rw [hp.length_eq]; simp

/-! ### components -/
theorem Sep.cplS {m : Nat} {B : List Nat} {S : Nat} (h : Sep m B S) : Sep m B (cpl m S) := fun C c1 c2 c3 => by
  obtain ⟨i, i1, i2⟩ := bit_and c3
  intro j hj
  rw [cpl_bit]
  cases q : S.testBit j
  · simp [bit_lt c1 hj]
  · have := h C c1 c2 (and_bit hj q) i i1
    rw [cpl_bit, this] at i2
    simp at i2
theorem Sep.inter {m : Nat} {B : List Nat} {S T : Nat} (h : Sep m B S) (h' : Sep m B T) : Sep m B (S &&& T) := fun C c1 c2 c3 => by
  obtain ⟨i, i1, i2⟩ := bit_and c3
  rw [Nat.testBit_and, Bool.and_eq_true] at i2
  exact inc_and (h C c1 c2 (and_bit i1 i2.1)) (h' C c1 c2 (and_bit i1 i2.2))
theorem IsComp.uniq {m : Nat} {B : List Nat} {v s t : Nat} (h : IsComp m B v s) (h' : IsComp m B v t) : s = t := Inc.antisymm (h.least t h'.lt h'.sep h'.mem) (h'.least s h.lt h.sep h.mem)
theorem IsComp.meet {m : Nat} {B : List Nat} {v u s t : Nat} (h : IsComp m B v s) (h' : IsComp m B u t) (hx : s &&& t ≠ 0) : s = t := by
  obtain ⟨x, x1, x2⟩ := bit_and hx
  have side : ∀ {v u s t : Nat}, IsComp m B v s → IsComp m B u t → s.testBit x = true → t.testBit x = true → Inc s t := fun {v u s t} h h' x1 x2 => by
    cases q : t.testBit v
    · have := h.least (s &&& cpl m t) ((inc_and_l _ _).lt h.lt) (h.sep.inter h'.sep.cplS) (by rw [Nat.testBit_and, h.mem, cpl_bit, q]; simp [bit_lt h.lt h.mem]) x x1
      rw [Nat.testBit_and, cpl_bit, x2] at this
      simp at this
    · exact h.least t h'.lt h'.sep q
  exact Inc.antisymm (side h h' x1 x2) (side h' h x2 x1)
theorem Mat.sep_part {m : Nat} {B : List Nat} (h : Mat m B) {S : Nat} (hS : S < 2 ^ m) (hs : Sep m B S) {A : Nat} (hA : A < 2 ^ m) : rk m B A = rk m B (A &&& S) + rk m B (A &&& cpl m S) := by
  have hle := h.sep_rk hS hs
  have u1 := h.rk_sub A S
  have u2 := h.rk_sub (A ||| S) (cpl m S)
  have u3 := h.rk_sub (A &&& S) (A &&& cpl m S)
  have e1 : (A ||| S) ||| cpl m S = 2 ^ m - 1 := Nat.eq_of_testBit_eq fun k => by
    rw [Nat.testBit_or, Nat.testBit_or, cpl_bit, full_bit]
    cases q1 : A.testBit k with
    | true => simp [bit_lt hA q1]
    | false =>
      cases q2 : S.testBit k with
      | true => simp [bit_lt hS q2]
      | false => simp
  have e2 : (A ||| S) &&& cpl m S = A &&& cpl m S := Nat.eq_of_testBit_eq fun k => by
    rw [Nat.testBit_and, Nat.testBit_or, Nat.testBit_and, cpl_bit]
    cases A.testBit k <;> cases S.testBit k <;> simp
  have e3 : A &&& S ||| A &&& cpl m S = A := Nat.eq_of_testBit_eq fun k => by
    rw [Nat.testBit_or, Nat.testBit_and, Nat.testBit_and, cpl_bit]
    cases q1 : A.testBit k with
    | true => cases S.testBit k <;> simp [bit_lt hA q1]
    | false => rfl
  have e4 : (A &&& S) &&& (A &&& cpl m S) = 0 := Nat.eq_of_testBit_eq fun k => by
    rw [Nat.testBit_and, Nat.testBit_and, Nat.testBit_and, cpl_bit, Nat.zero_testBit]
    cases A.testBit k <;> cases S.testBit k <;> simp
  rw [e1, e2] at u2
  rw [e3, e4, h.rk_zero] at u3
  omega

/-! ### direct sums -/
def mix (p X Y : Nat) : Nat := X ||| Y * 2 ^ p
theorem mix_bit {p X Y i : Nat} (hX : X < 2 ^ p) : (mix p X Y).testBit i = if i < p then X.testBit i else Y.testBit (i - p) := by
  unfold mix
  rw [Nat.testBit_or, Nat.testBit_mul_two_pow]
  by_cases c : i < p
  · rw [if_pos c]; simp [show ¬ p ≤ i by omega]
  · rw [if_neg c, bit_ge hX (by omega)]; simp [show p ≤ i by omega]
theorem mix_lt {p q X Y : Nat} (hX : X < 2 ^ p) (hY : Y < 2 ^ q) : mix p X Y < 2 ^ (p + q) := lt_of_bits fun i hi => by
  rw [mix_bit hX, if_neg (by omega)]
  exact bit_ge hY (by omega)
theorem mix_cnt {p X Y : Nat} (hX : X < 2 ^ p) : ∀ q, cnt (p + q) (mix p X Y) = cnt p X + cnt q Y
  | 0 => by
    show cnt p _ = cnt p X + 0
    rw [Nat.add_zero]
    exact cnt_congr fun i hi => by rw [mix_bit hX, if_pos hi]
  | q + 1 => by
    show cnt (p + q) _ + (if (mix p X Y).testBit (p + q) then 1 else 0) = cnt p X + (cnt q Y + if Y.testBit q then 1 else 0)
    have e : (mix p X Y).testBit (p + q) = Y.testBit q := by
      rw [mix_bit hX, if_neg (by omega)]; congr 1; omega
    rw [mix_cnt hX q, e]
    omega
theorem mix_and {p X Y Z W : Nat} (hX : X < 2 ^ p) (hZ : Z < 2 ^ p) : mix p X Y &&& mix p Z W = mix p (X &&& Z) (Y &&& W) := Nat.eq_of_testBit_eq fun i => by
  rw [Nat.testBit_and, mix_bit hX, mix_bit hZ, mix_bit ((inc_and_l X Z).lt hX)]
  split <;> rw [Nat.testBit_and]
theorem mix_cpl {p q X Y : Nat} (hX : X < 2 ^ p) : cpl (p + q) (mix p X Y) = mix p (cpl p X) (cpl q Y) := Nat.eq_of_testBit_eq fun i => by
  rw [cpl_bit, mix_bit hX, mix_bit (cpl_lt _ _)]
  split
  · rw [cpl_bit]; congr 2; exact propext (by omega)
  · rw [cpl_bit]; congr 2; exact propext (by omega)
theorem mix_full (p q : Nat) : 2 ^ (p + q) - 1 = mix p (2 ^ p - 1) (2 ^ q - 1) := Nat.eq_of_testBit_eq fun i => by
  rw [full_bit, mix_bit (full_lt p)]
  split
  · rw [full_bit, decide_eq_decide]; omega
  · rw [full_bit, decide_eq_decide]; omega
theorem mix_ex {p q S : Nat} (hS : S < 2 ^ (p + q)) : ∃ X Y, X < 2 ^ p ∧ Y < 2 ^ q ∧ S = mix p X Y := by
  have hX : S % 2 ^ p < 2 ^ p := Nat.mod_lt _ (Nat.pow_pos (by omega))
  refine ⟨S % 2 ^ p, S / 2 ^ p, hX, lt_of_bits fun i hi => ?_, Nat.eq_of_testBit_eq fun i => ?_⟩
  · rw [Nat.testBit_div_two_pow]; exact bit_ge hS (by omega)
  · rw [mix_bit hX]
    split
    · rw [Nat.testBit_mod_two_pow]; simp [*]
    · rw [Nat.testBit_div_two_pow]; congr 1; omega
theorem mix_inc {p X Y Z W : Nat} (hX : X < 2 ^ p) (hZ : Z < 2 ^ p) (h1 : Inc X Z) (h2 : Inc Y W) : Inc (mix p X Y) (mix p Z W) := fun i hi => by
  rw [mix_bit hX] at hi
  rw [mix_bit hZ]
  split at hi
  · rw [if_pos ‹_›]; exact h1 i hi
  · rw [if_neg ‹_›]; exact h2 _ hi
/-- The bases of a direct sum. -/
def IsSum (p : Nat) (A B K : List Nat) : Prop := ∀ s, s ∈ K ↔ ∃ a b, a ∈ A ∧ b ∈ B ∧ s = mix p a b
section
variable {p q : Nat} {A B K : List Nat} (hA : Mat p A) (hB : Mat q B) (hK : IsSum p A B K)
include hA hB hK
theorem sum_rk {X Y : Nat} (hX : X < 2 ^ p) : rk (p + q) K (mix p X Y) = rk p A X + rk q B Y := by
  refine Nat.le_antisymm (rk_le.2 fun x hx => ?_) ?_
  · obtain ⟨a, b, ha, hb, rfl⟩ := (hK x).1 hx
    rw [mix_and hX (hA.lt a ha), mix_cnt ((inc_and_l _ _).lt hX)]
    have := le_rk (m := p) (s := X) ha
    have := le_rk (m := q) (s := Y) hb
    omega
  · obtain ⟨a, ha, ea⟩ := hA.rk_mem X
    obtain ⟨b, hb, eb⟩ := hB.rk_mem Y
    have := le_rk (m := p + q) (s := mix p X Y) ((hK _).2 ⟨a, b, ha, hb, rfl⟩)
    rw [mix_and hX (hA.lt a ha), mix_cnt ((inc_and_l _ _).lt hX)] at this
    omega
theorem sum_mat (hF : Fam (p + q) K) : Mat (p + q) K := by
  refine ⟨hF, fun e => ?_, fun s hs t ht => ?_, fun s hs t ht x h1 h2 => ?_⟩
  · obtain ⟨a, ha⟩ := hA.exists_basis
    obtain ⟨b, hb⟩ := hB.exists_basis
    have := (hK _).2 ⟨a, b, ha, hb, rfl⟩
    rw [e] at this; simp at this
  · obtain ⟨a, b, ha, hb, rfl⟩ := (hK s).1 hs
    obtain ⟨a', b', ha', hb', rfl⟩ := (hK t).1 ht
    rw [mix_cnt (hA.lt a ha), mix_cnt (hA.lt a' ha'), hA.eqc a ha a' ha', hB.eqc b hb b' hb']
  · obtain ⟨a, b, ha, hb, rfl⟩ := (hK s).1 hs
    obtain ⟨a', b', ha', hb', rfl⟩ := (hK t).1 ht
    have la := hA.lt a ha
    have la' := hA.lt a' ha'
    rw [mix_bit la] at h1
    rw [mix_bit la'] at h2
    by_cases c : x < p
    · rw [if_pos c] at h1 h2
      obtain ⟨y, y1, y2, y3⟩ := hA.ex a ha a' ha' x h1 h2
      have hy := bit_lt la' y1
      refine ⟨y, by rw [mix_bit la', if_pos hy]; exact y1, by rw [mix_bit la, if_pos hy]; exact y2, (hK _).2 ⟨_, b, y3, hb, Nat.eq_of_testBit_eq fun i => ?_⟩⟩
      rw [Nat.testBit_or, testBit_dif, mix_bit la, mix_bit (hA.lt _ y3), testBit_pow, testBit_pow]
      split
      · rw [Nat.testBit_or, testBit_dif, testBit_pow, testBit_pow]
      · have : ¬ x = i := by omega
        have : ¬ y = i := by omega
        simp [*]
    · rw [if_neg c] at h1 h2
      obtain ⟨y, y1, y2, y3⟩ := hB.ex b hb b' hb' (x - p) h1 h2
      refine ⟨p + y, by rw [mix_bit la', if_neg (by omega), show p + y - p = y by omega]; exact y1, by rw [mix_bit la, if_neg (by omega), show p + y - p = y by omega]; exact y2, (hK _).2 ⟨a, _, ha, y3, Nat.eq_of_testBit_eq fun i => ?_⟩⟩
      rw [Nat.testBit_or, testBit_dif, mix_bit la, mix_bit la, testBit_pow, testBit_pow]
      split
      · have : ¬ x = i := by omega
        have : ¬ p + y = i := by omega
        simp [*]
      · rw [Nat.testBit_or, testBit_dif, testBit_pow, testBit_pow]
        have e1 : decide (x = i) = decide (x - p = i - p) := by rw [decide_eq_decide]; omega
        have e2 : decide (p + y = i) = decide (y = i - p) := by rw [decide_eq_decide]; omega
        rw [e1, e2]
theorem sum_sep (hF : Fam (p + q) K) {X Y : Nat} (hX : X < 2 ^ p) (hY : Y < 2 ^ q) : Sep (p + q) K (mix p X Y) ↔ Sep p A X ∧ Sep q B Y := by
  have hM := sum_mat hA hB hK hF
  have hl := mix_lt hX hY
  have e1 := sum_rk hA hB hK (Y := Y) hX
  have e2 := sum_rk hA hB hK (Y := cpl q Y) (cpl_lt p X)
  have e3 := sum_rk hA hB hK (Y := 2 ^ q - 1) (full_lt p)
  rw [← mix_cpl hX] at e2
  rw [← mix_full] at e3
  constructor
  · intro hs
    have := hM.sep_rk hl hs
    have := hA.cpl_sub hX
    have := hB.cpl_sub hY
    exact ⟨hA.rk_sep hX (by omega), hB.rk_sep hY (by omega)⟩
  · rintro ⟨h1, h2⟩
    have := hA.sep_rk hX h1
    have := hB.sep_rk hY h2
    exact hM.rk_sep hl (by omega)
theorem sum_compL (hF : Fam (p + q) K) {v s : Nat} (hs : IsComp p A v s) : IsComp (p + q) K v (mix p s 0) := by
  have hv := bit_lt hs.lt hs.mem
  have z : (0 : Nat) < 2 ^ q := Nat.pow_pos (by omega)
  refine ⟨mix_lt hs.lt z, by rw [mix_bit hs.lt, if_pos hv]; exact hs.mem, (sum_sep hA hB hK hF hs.lt z).2 ⟨hs.sep, fun C _ _ h0 => absurd (Nat.and_zero C) h0⟩, fun S hS hSep hm => ?_⟩
  obtain ⟨X, Y, hX, hY, rfl⟩ := mix_ex hS
  rw [mix_bit hX, if_pos hv] at hm
  exact mix_inc hs.lt hX (hs.least X hX ((sum_sep hA hB hK hF hX hY).1 hSep).1 hm) (inc_zero _)
theorem sum_compR (hF : Fam (p + q) K) {v s : Nat} (hs : IsComp q B v s) : IsComp (p + q) K (p + v) (mix p 0 s) := by
  have hv := bit_lt hs.lt hs.mem
  have z : (0 : Nat) < 2 ^ p := Nat.pow_pos (by omega)
  refine ⟨mix_lt z hs.lt, by rw [mix_bit z, if_neg (by omega), show p + v - p = v by omega]; exact hs.mem, (sum_sep hA hB hK hF z hs.lt).2 ⟨fun C _ _ h0 => absurd (Nat.and_zero C) h0, hs.sep⟩, fun S hS hSep hm => ?_⟩
  obtain ⟨X, Y, hX, hY, rfl⟩ := mix_ex hS
  rw [mix_bit hX, if_neg (by omega), show p + v - p = v by omega] at hm
  exact mix_inc z hX (inc_zero _) (hs.least Y hY ((sum_sep hA hB hK hF hX hY).1 hSep).2 hm)
end
end Go.SH
