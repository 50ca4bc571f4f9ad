/-
  The law CodesBounds: HAMMING, GRIESMER, PLOTKIN. Conditions: none.
-/
import Derived.Test.YtabhcjpjoknihaaLyC
import Derived.Test.YtabhcjpjoknihaaSkCodesBounds
set_option linter.unusedSimpArgs false
set_option linter.unusedVariables false
set_option linter.unusedSectionVars false
namespace Go.SH
open Go Go.AX

theorem power_spec {a b : Nat} (ha : 0 < a) (h : a ^ b ≤ 9223372036854775807) : rotakeep_power (a : Int) (b : Int) = some ((a ^ b : Nat) : Int) := by
  refine Gets.eq ?_
  unfold rotakeep_power
  refine gBind (R := fun z => z = ((a ^ b : Nat) : Int)) (gFor b (fun v (x : Int × Int) => x.2 = (v : Int) ∧ x.1 = ((a ^ v : Nat) : Int)) (Nat.zero_le _) ⟨rfl, by simp⟩ ?_) fun z hz => gSome hz
  rintro v ⟨_, _⟩ hv ⟨rfl, rfl⟩
  simp only
  refine gIte (fun c => ?_) fun c => gSome (by rw [show v = b by omega])
  have hvb : v < b := by omega
  have e : ((a ^ v : Nat) : Int) * (a : Int) = ((a ^ (v + 1) : Nat) : Int) := by rw [Nat.pow_succ, Int.natCast_mul]
  have := Nat.pow_le_pow_right ha (show v + 1 ≤ b by omega)
  simp only [e]
  exact gChk (by omega) (gSome ⟨hvb, by simp, rfl⟩)
theorem ch_tab : ∀ n : Fin 9, ∀ v : Fin 9, v.val < n.val → ch n.val v.val * (n.val - v.val) = ch n.val (v.val + 1) * (v.val + 1) ∧ ch n.val v.val ≤ 70 ∧ ch n.val (v.val + 1) ≤ 70 := by decide +kernel
theorem over_spec {n k : Nat} (hn : n ≤ 8) (hk : k ≤ n) : rotakeep_over (n : Int) (k : Int) = some ((ch n k : Nat) : Int) := by
  refine Gets.eq ?_
  unfold rotakeep_over
  refine gIte (fun c => absurd c (by omega)) fun _ => ?_
  refine gBind (R := fun z => z = ((ch n k : Nat) : Int)) (gFor k (fun v (x : Int × Int) => x.2 = (v : Int) ∧ x.1 = ((ch n v : Nat) : Int)) (Nat.zero_le _) ⟨rfl, by rw [ch_zero]; rfl⟩ ?_) fun z hz => gSome hz
  rintro v ⟨_, _⟩ hv ⟨rfl, rfl⟩
  simp only
  refine gIte (fun c => ?_) fun c => gSome (by rw [show v = k by omega])
  have hvk : v < k := by omega
  obtain ⟨t1, t2, t3⟩ := ch_tab ⟨n, by omega⟩ ⟨v, by omega⟩ (by show v < n; omega)
  simp only at t1 t2 t3
  have e0 : (n : Int) - (v : Int) = ((n - v : Nat) : Int) := by omega
  have e1 : ((ch n v : Nat) : Int) * ((n : Int) - (v : Int)) = ((ch n (v + 1) : Nat) : Int) * ((v : Int) + 1) := by
    rw [e0, ← Int.natCast_mul, t1, Int.natCast_mul]; rfl
  have e2 : Int.tdiv (((ch n v : Nat) : Int) * ((n : Int) - (v : Int))) ((v : Int) + 1) = ((ch n (v + 1) : Nat) : Int) := by
    rw [e1]; exact Int.mul_tdiv_cancel _ (by omega)
  have b1 : ((ch n v : Nat) : Int) * ((n : Int) - (v : Int)) ≤ 1000 ∧ 0 ≤ ((ch n v : Nat) : Int) * ((n : Int) - (v : Int)) := by
    rw [e0, ← Int.natCast_mul]
    have := Nat.mul_le_mul t2 (show n - v ≤ 8 by omega)
    omega
  simp only [e2]
  exact gChk ⟨by omega, by omega, by omega, by omega⟩ (gSome ⟨hvk, by simp, rfl⟩)
theorem up_spec {a b : Nat} (hb : 0 < b) (ha : a ≤ 1000) : rotaref_Up (a : Int) (b : Int) = some ((up a b : Nat) : Int) := by
  refine Gets.eq ?_
  unfold rotaref_Up
  have e : Int.tdiv (a : Int) (b : Int) = ((a / b : Nat) : Int) := rfl
  have h1 : a / b * b ≤ a := Nat.div_mul_le_self a b
  have h2 : a < b * (a / b + 1) := Nat.lt_mul_div_succ a hb
  have h3 : a / b ≤ a := Nat.div_le_self a b
  have e3 : ((a / b : Nat) : Int) * (b : Int) = ((a / b * b : Nat) : Int) := (Int.natCast_mul _ _).symm
  simp only [e, e3]
  generalize a / b = q at h1 h2 h3 ⊢
  refine gChk ⟨by omega, by omega⟩ (gChk (by omega) (gIte (fun c => gChk (by omega) (gSome ?_)) fun c => gSome ?_))
  · have k1 : up a b ≤ q + 1 := (up_le hb).2 (by omega)
    have k2 : ¬ up a b ≤ q := fun w => by
      have := (up_le hb).1 w
      rw [Nat.mul_comm] at this
      omega
    omega
  · have k1 : up a b ≤ q := (up_le hb).2 (by rw [Nat.mul_comm]; omega)
    have k2 : q ≤ up a b := by
      refine Nat.le_of_not_lt fun w => ?_
      have := (up_le hb).1 (Nat.le_refl (up a b))
      have h4 := Nat.mul_le_mul_left b (show up a b + 1 ≤ q by omega)
      rw [Nat.mul_succ, Nat.mul_comm b q] at h4
      omega
    omega
theorem two12 : Gets (codes_Distance 3 2 [[1, 2]]) (fun y => y = (2, 0)) := by
  have hX : MOk 3 1 2 [[1, 2]] := ⟨rfl, fun i hi => by rw [show i = 0 by omega]; rfl, fun i hi j hj => by
    rw [show i = 0 by omega]
    rcases (show j = 0 ∨ j = 1 by omega) with rfl | rfl <;> decide⟩
  have hR0 : Rr 1 2 (fun _ => 0) (MF 3 [[1, 2]]) := ⟨fun i j _ _ => by omega, fun i _ => by omega, fun i hi => by rw [show i = 0 by omega]; decide, fun i j _ _ _ => by omega, fun i j _ h => by omega⟩
  have uni : ∀ (k : Nat) (h : Nat → Nat) (Y : List (List Int)), RedOf 3 1 2 [[1, 2]] k h Y → k = 1 ∧ Y = [[1, 2]] := fun k h Y hR => by
    obtain ⟨rfl, _, eM⟩ := hR.2.2.1.same hR0 fld3.one fun v => (hR.2.2.2 v).symm
    exact ⟨rfl, hR.2.1.ext hX eM⟩
  have cnts : ∀ o, CountsOf 3 1 2 [[1, 2]] o → o.getD 1 0 = 0 ∧ o.getD 2 0 = 2 := fun o ⟨k, h, Y, hR, _, _, hv⟩ => by
    obtain ⟨rfl, rfl⟩ := uni k h Y hR
    rw [hv 1 (by omega), hv 2 (by omega)]
    decide +kernel
  refine (show Gets (codes_Distance ((3 : Nat) : Int) ((2 : Nat) : Int) [[1, 2]]) _ from Distance_spec fld3 (by omega) (by omega) hX (by omega) (by omega) (CM.of (by omega) (by omega) (by omega) hX)).mono ?_
  rintro ⟨y1, y2⟩ (⟨_, _, ⟨k, h, Y, hR, hb⟩ | ⟨o, ho, hz⟩⟩ | ⟨rfl, d, o, rfl, d1, d2, ho, d3, _⟩)
  · obtain ⟨rfl, _⟩ := uni k h Y hR
    omega
  · exact absurd (by rw [(cnts o ho).2]; decide) (hz 2 (by omega) (by omega))
  · have : d ≠ 1 := fun e => by
      subst e
      rw [(cnts o ho).1] at d3
      omega
    have : d = 2 := by omega
    subst this
    rfl
theorem cx0 {p : Nat} [NeZero p] (k : Nat) (M : Nat → Nat → Fin p) (a : Nat → Fin p) : cx M k 0 a = cw k M a := funext fun j => by
  unfold cx cw
  exact Sm_congr fun l _ => by rw [Nat.zero_add]
theorem wS_true {p : Nat} [NeZero p] (n : Nat) (u : Nat → Fin p) : wS n (fun _ => true) u = wt n u := by
  unfold wS wt
  exact nS_congr fun j _ => by simp
theorem rotakeep_CodesBounds_law (P C : Int) (X : List (List Int)) : rotakeep_CodesBounds P C X = some true := by
  refine Gets.eq ?_
  unfold rotakeep_CodesBounds
  refine gBind two12 ?_
  rintro _ rfl
  refine gIte (fun q => absurd q (by decide)) fun _ => ?_
  by_cases hX : CM P C X
  case neg => exact gBind (Distance_bad hX) fun y hy => gIte (fun _ => gSome (by simp [hy.2])) fun q => absurd hy.1 q
  obtain ⟨p, n, inst, rfl, rfl, hn8, h7, hp, hr6, hXo⟩ := hX.elim
  generalize hr : X.length = r at hr6 hXo
  have p0 : 0 < p := ppos
  have hp1 : 1 < p := by
    rcases hX.1 with e | e | e | e <;> omega
  refine gBind (Distance_spec hp hp1 h7 hXo hr6 hn8 hX) ?_
  rintro ⟨y1, y2⟩ (⟨e2, e1, _⟩ | ⟨e2, d, o, e1, d0, dn, ⟨k, h, Y, hR, hk, hl, hv⟩, dpos, dmin⟩)
  · exact gIte (fun _ => gSome (by simpa using e1)) fun q => absurd e2 q
  dsimp only at e1 e2
  subst e1 e2
  refine gIte (fun q => absurd rfl q) fun _ => ?_
  have hk6 : k ≤ 6 := Nat.le_trans hR.1 hr6
  have hd : ∀ a : Nat → Fin p, (∃ l, l < k ∧ a l ≠ 0) → d ≤ wt n (cx (MF p Y) k 0 a) := fun a ⟨l, hlk, ha⟩ => by
    refine Nat.le_of_not_lt fun q => ?_
    have hH := hR.2.2.1
    have hval : cx (MF p Y) k 0 a (h l) = a l := by
      unfold cx
      rw [Sm_one (k := l) hlk fun i hi hne => by rw [Nat.zero_add, hH.off i l hi hlk hne]; grind, Nat.zero_add, hH.one l hlk]
      grind
    have hpos : 0 < wt n (cx (MF p Y) k 0 a) := by
      have := nS_ge (f := fun j => if cx (MF p Y) k 0 a j ≠ 0 then 1 else 0) (hH.lt l hlk)
      rw [hval, if_pos ha] at this
      exact this
    refine dmin _ hpos q ?_
    rw [hv _ (by omega)]
    have := cS_has_pos (M := MF p Y) n (wt n (cx (MF p Y) k 0 a)) k 0 (fun _ => 0) a (congrArg _ (funext fun j => by grind))
    omega
  refine gBind (Rank_spec hp h7 hXo hr6 hn8 hX) ?_
  rintro _ ⟨k', h', Y', rfl, hR'⟩
  obtain ⟨rfl, _, _⟩ := hR'.2.2.1.same hR.2.2.1 hp.one fun v => ((hR'.2.2.2 v).symm.trans (hR.2.2.2 v))
  have hpn : p ^ n ≤ 5764801 := Nat.le_trans (Nat.pow_le_pow_left h7 n) (Nat.le_trans (Nat.pow_le_pow_right (by omega) hn8) (by decide))
  have hblle : ∀ i, bl (p - 1) n i ≤ p ^ n := fun i => by
    rw [← ball n i (fun _ => (0 : Fin p))]
    have := vS_le (F := fun v : Nat → Fin p => if wt n (fun j => v j - 0) < i then 1 else 0) (G := fun _ => 1) n fun v => by split <;> omega
    rw [vS_const, Nat.mul_one] at this
    exact this
  refine gBindE (power_spec p0 (by omega)) ?_
  obtain ⟨T, hT⟩ : ∃ T, T = (d - 1) / 2 := ⟨_, rfl⟩
  have eT : Int.tdiv ((d : Int) - 1) 2 = (T : Int) := by
    rw [show (d : Int) - 1 = ((d - 1 : Nat) : Int) by omega, hT]; rfl
  refine gBind (R := fun z => z = ((bl (p - 1) n (T + 1) : Nat) : Int)) (gFor (T + 1) (fun i (x : Int × Int) => x.2 = (i : Int) ∧ x.1 = ((bl (p - 1) n i : Nat) : Int)) (Nat.zero_le _) ⟨rfl, rfl⟩ ?_) ?_
  · rintro i ⟨_, _⟩ hi ⟨rfl, rfl⟩
    simp only [eT]
    refine gChk ⟨by omega, by omega⟩ (gIte (fun c => ?_) fun c => gSome (by rw [show i = T + 1 by omega]))
    have hiT : i < T + 1 := by omega
    refine gBindE (over_spec hn8 (by omega)) (gChk (by omega) ?_)
    rw [show (p : Int) - 1 = ((p - 1 : Nat) : Int) by omega]
    have hb6 : (p - 1) ^ i ≤ 1679616 := Nat.le_trans (Nat.pow_le_pow_left (show p - 1 ≤ 6 by omega) i) (Nat.le_trans (Nat.pow_le_pow_right (by omega) (show i ≤ 8 by omega)) (by decide))
    refine gBindE (power_spec (by omega) (by omega)) ?_
    have hs : bl (p - 1) n (i + 1) = bl (p - 1) n i + ch n i * (p - 1) ^ i := rfl
    have := hblle (i + 1)
    have e : ((ch n i : Nat) : Int) * (((p - 1) ^ i : Nat) : Int) = ((ch n i * (p - 1) ^ i : Nat) : Int) := (Int.natCast_mul _ _).symm
    simp only [e]
    exact gChk (by omega) (gChk (by omega) (gSome ⟨hiT, by simp, by omega⟩))
  rintro _ rfl
  have hup : ∀ i, up d (p ^ i) ≤ 8 := fun i => (up_le (Nat.pow_pos p0)).2 (by
    have := Nat.le_mul_of_pos_left 8 (Nat.pow_pos (n := i) p0)
    omega)
  refine gBind (R := fun z => z = ((nS k' (fun i => up d (p ^ i)) : Nat) : Int)) (gFor k' (fun i (x : Int × Int) => x.2 = (i : Int) ∧ x.1 = ((nS i (fun i => up d (p ^ i)) : Nat) : Int)) (Nat.zero_le _) ⟨rfl, rfl⟩ ?_) ?_
  · rintro i ⟨_, _⟩ hi ⟨rfl, rfl⟩
    simp only
    refine gIte (fun c => ?_) fun c => gSome (by rw [show i = k' by omega])
    have hik : i < k' := by omega
    have hpi : p ^ i ≤ p ^ k' := Nat.pow_le_pow_right p0 (by omega)
    refine gBindE (power_spec p0 (by omega)) (gBindE (up_spec (Nat.pow_pos p0) (by omega)) ?_)
    have h1 := nS_le (n := i) (g := fun _ => 8) fun i _ => hup i
    rw [nS_const] at h1
    have := hup i
    exact gChk (by omega) (gChk (by omega) (gSome ⟨hik, by simp, by simp only [nS]; omega⟩))
  rintro _ rfl
  have G := gries hp (n := n) k' (MF p Y) (fun _ => true) d fun a ha => by
    rw [wS_true, ← cx0]; exact hd a ha
  have eG : nS n (fun j => if (fun _ : Nat => true) j = true then 1 else 0) = n := by
    rw [nS_congr (g := fun _ => 1) fun j _ => by simp, nS_const, Nat.mul_one]
  rw [eG] at G
  have H := hamming (p := p) (M := MF p Y) (n := n) (k := k') (t := T) fun a ha => by
    have := hd a ha
    omega
  have Q := plotkin hp (n := n) (k := k') (d := d) hd
  have eH : ((bl (p - 1) n (T + 1) : Nat) : Int) * ((p ^ k' : Nat) : Int) = ((p ^ k' * bl (p - 1) n (T + 1) : Nat) : Int) := by rw [← Int.natCast_mul, Nat.mul_comm]
  have hk0 := Nat.pow_pos (n := k') p0
  have e5 : ((p ^ k' : Nat) : Int) - 1 = ((p ^ k' - 1 : Nat) : Int) := by omega
  have e6 : (p : Int) - 1 = ((p - 1 : Nat) : Int) := by omega
  have e7 : (n : Int) * ((p : Int) - 1) * ((p ^ k' : Nat) : Int) = ((n * (p - 1) * p ^ k' : Nat) : Int) := by rw [e6, ← Int.natCast_mul, ← Int.natCast_mul]
  have e8 : (d : Int) * (((p ^ k' : Nat) : Int) - 1) = ((d * (p ^ k' - 1) : Nat) : Int) := by rw [e5, ← Int.natCast_mul]
  have e9 : (n : Int) * ((p : Int) - 1) = ((n * (p - 1) : Nat) : Int) := by rw [e6, ← Int.natCast_mul]
  have e10 : Int.tdiv ((n : Int) * ((p : Int) - 1) * ((p ^ k' : Nat) : Int)) (p : Int) = ((n * (p - 1) * p ^ k' / p : Nat) : Int) := by rw [e7]; rfl
  have b1 : n * (p - 1) ≤ 48 := Nat.mul_le_mul hn8 (show p - 1 ≤ 6 by omega)
  have b2 : n * (p - 1) * p ^ k' ≤ 48 * 20000 := Nat.mul_le_mul b1 hk
  have b3 : n * (p - 1) * p ^ k' / p ≤ n * (p - 1) * p ^ k' := Nat.div_le_self _ _
  have b4 : d * (p ^ k' - 1) ≤ 8 * 20000 := Nat.mul_le_mul (by omega) (by omega)
  have Q2 : d * (p ^ k' - 1) ≤ n * (p - 1) * p ^ k' / p := by
    rw [Nat.le_div_iff_mul_le p0, Nat.mul_comm, Nat.mul_sub, Nat.mul_sub, Nat.mul_one]
    rw [← Nat.mul_assoc n] at Q
    omega
  refine gChk (fun _ => by rw [eH]; omega) ?_
  rw [if_pos rfl]
  refine gBindE (power_spec p0 (by omega)) ?_
  refine gChk ⟨fun _ => by omega, fun _ => by rw [e8]; omega, fun _ => by omega, fun _ => by rw [e9]; omega, fun _ => by rw [e7]; omega, fun _ => by omega, fun _ => by rw [e10]; omega⟩ (gSome ?_)
  simp only [decide_eq_true_eq]
  refine ⟨⟨⟨trivial, ?_⟩, by omega⟩, ?_⟩
  · rw [eH]; omega
  · rw [e8, e10]; omega
end Go.SH
