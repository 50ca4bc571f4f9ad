/-
  Kernels of matrices: the statement FieldKernel as a plain law. Conditions: none.
-/
import Derived.Test.YtdhbpoafkhojnaaLFc
import Derived.Test.YtdhbpoafkhojnaaLFe
import Derived.Test.YtdhbpoafkhojnaaLQd
import Derived.Test.YtdhbpoafkhojnaaLSm
import Derived.Test.YtdhbpoafkhojnaaLKy
import Derived.Test.YtdhbpoafkhojnaaSkFieldKernel
set_option linter.unusedSimpArgs false
set_option linter.unusedVariables false
set_option linter.unusedSectionVars false
namespace Go.SH
open Go Go.AX

theorem CM.of2 {p : Nat} {C : Int} {X : List (List Int)} (h : CM p C X) {r n : Nat} {Y : List (List Int)} (hr : r ≤ 6) (hn : n ≤ 8) (hY : MOk p r n Y) : CM p n Y := CM.of (by have := h.1; omega) hn hr hY
section
variable {p : Nat} [NeZero p]
theorem Kernel_bad {P C : Int} {X : List (List Int)} (h : ¬ CM P C X) : Gets (field_Kernel P C X) (fun y => y.2.2.2 ≠ 0 ∧ y.2.2.1 = []) := by
  unfold field_Kernel
  exact gBind (CM.bad h) fun e he => gIte (fun q => gSome ⟨he, rfl⟩) fun q => absurd he q
/-- The numbers of a kernel's row. -/
theorem kv_at {k n : Nat} {h : Nat → Nat} {M : Nat → Nat → Fin p} (H : Rr k n h M) {j : Nat} (hno : ∀ t, t < k → h t ≠ j) : kv k h M j j = 1 ∧ (∀ t, t < k → kv k h M j (h t) = - M t j) ∧ ∀ l, l ≠ j → (∀ t, t < k → h t ≠ l) → kv k h M j l = 0 := by
  refine ⟨?_, fun t ht => ?_, fun l hl hl2 => ?_⟩
  · unfold kv
    rw [if_pos rfl, Sm_zero fun t ht => if_neg (fun e => hno t ht e.symm)]
    exact ka1 1
  · unfold kv
    rw [if_neg (hno t ht), H.ind (fun t => M t j) ht]
    exact ka2 _
  · unfold kv
    rw [if_neg hl, Sm_zero fun t ht => if_neg (fun e => hl2 t ht e.symm)]
    exact fa7 0
where
  ka1 (a : Fin p) : a - 0 = a := by grind
  ka2 (a : Fin p) : 0 - a = - a := by grind
theorem cF_negm {a : Int} (ha : 0 ≤ a ∧ a < p) : cF p (Int.tmod ((p : Int) - a) p) = - cF p a := by
  rw [cF_tmod (by omega), cF_sub, cF_self]
  exact kn _
where
  kn (a : Fin p) : 0 - a = - a := by grind
theorem Kernel_spec (hp : Fld p) (h7 : p ≤ 7) {r n : Nat} {X : List (List Int)} (hX : MOk p r n X) (hr : r ≤ 6) (hn : n ≤ 8) (hc : CM p n X) : Gets (field_Kernel p n X) (fun y => ∃ (k : Nat) (h : Nat → Nat) (Y : List (List Int)), RedOf p r n X k h Y ∧ ((6 < (n : Int) - k ∧ y = (0, 0, [], 2)) ∨ ((n : Int) - k ≤ 6 ∧ ∃ (k' : Nat) (h' : Nat → Nat) (K : List (List Int)), y = ((p : Int), (n : Int), K, 0) ∧ MOk p k' n K ∧ Rr k' n h' (MF p K) ∧ ∀ w, Ker k' n (MF p K) w ↔ RowS k n h (MF p Y) w))) := by
  unfold field_Kernel
  refine gBind hc.good fun e he => gIte (fun q => absurd he q) fun _ => ?_
  refine gBind (field_twin_spec hX hr hn _ _) ?_
  rintro _ rfl
  refine gBind (field_reduced_spec hp h7 hX hr hn) ?_
  rintro _ ⟨k, h, Y, h1, rfl, h2, h3, h4⟩
  have hY := h2
  have hlY := hY.len
  have h1p := hp.one
  have hp0 : 0 < p := Nat.pos_of_ne_zero (NeZero.ne p)
  have hp1 : 1 < p := by
    rcases Nat.lt_or_ge 1 p with c | c
    · exact c
    · exfalso
      have e : p = 1 := by omega
      subst e
      exact h1p (by apply Fin.ext; omega)
  dsimp only
  obtain ⟨v, hv⟩ : ∃ v, v = (List.range k).map (fun i => ((h i : Nat) : Int)) := ⟨_, rfl⟩
  rw [← hv]
  have hlv : v.length = k := by rw [hv]; simp
  have hvt : ∀ t, t < k → v.getD t 0 = ((h t : Nat) : Int) := fun t ht => by
    rw [hv, List.getD_eq_getElem?_getD, List.getElem?_map, List.getElem?_range ht]; rfl
  have hvm : ∀ j : Nat, ((j : Int) ∈ v) ↔ ∃ t, t < k ∧ h t = j := fun j => by
    rw [hv, List.mem_map]
    exact ⟨fun ⟨t, a, b⟩ => ⟨t, List.mem_range.1 a, by omega⟩, fun ⟨t, a, b⟩ => ⟨t, List.mem_range.2 a, by omega⟩⟩
  simp only [hlv]
  refine gChk ⟨by omega, by omega⟩ (gIte (fun q => gSome ⟨k, h, Y, ⟨h1, h2, h3, h4⟩, .inl ⟨q, rfl⟩⟩) fun q => ?_)
  obtain ⟨hs, s1, s2, _, s4⟩ := h3.heads_set
  have hcp := cpl_cnt (m := n) (s := hs)
  -- the rows so far: one for each column without a head
  refine gBind (R := fun V : List (List Int) => ∃ a, a = cnt n (cpl n hs) ∧ MOk p a n V ∧ ∀ w, Ker a n (MF p V) w ↔ ∀ j, j < n → (∀ t, t < k → h t ≠ j) → Sm n (fun l => kv k h (MF p Y) j l * w l) = 0)
    (gFor n (fun j (s : List (List Int) × Int) => s.2 = (j : Int) ∧ ∃ a, a = cnt j (cpl n hs) ∧ MOk p a n s.1 ∧ ∀ w, Ker a n (MF p s.1) w ↔ ∀ b, b < j → (∀ t, t < k → h t ≠ b) → Sm n (fun l => kv k h (MF p Y) b l * w l) = 0) (Nat.zero_le _)
      ⟨rfl, 0, rfl, ⟨rfl, fun i h => by omega, fun i h => by omega⟩, fun w => ⟨fun _ b hb => by omega, fun _ i hi => by omega⟩⟩ ?_) ?_
  · rintro j ⟨V, _⟩ hj ⟨rfl, a, ha, hV, hV2⟩
    dsimp only at hV hV2 ⊢
    have hlV := hV.len
    have haj := cnt_le j (cpl n hs)
    refine gIte (fun hjn => ?_) fun hjn => gSome ⟨a, by rw [ha, show n = j by omega], hV, fun w => by rw [hV2 w, show n = j by omega]⟩
    have hjn' : j < n := by omega
    have hcs : cnt (j + 1) (cpl n hs) = if ∃ t, t < k ∧ h t = j then cnt j (cpl n hs) else cnt j (cpl n hs) + 1 := by
      rw [cnt]
      by_cases c : ∃ t, t < k ∧ h t = j
      · rw [if_pos c, cpl_bit, (s4 j).2 c]; simp
      · have : hs.testBit j = false := by
          cases q : hs.testBit j with
          | false => rfl
          | true => exact absurd ((s4 j).1 q) c
        rw [if_neg c, cpl_bit, this]; simp [hjn']
    rw [slices_Contains_spec v (j : Int) (by omega)]
    refine gBindE rfl (gIte (fun hin => ?_) fun hin => ?_)
    · obtain ⟨t, t1, t2⟩ := (hvm j).1 (by simpa using hin)
      refine gChk ⟨by omega, by omega⟩ (gSome ⟨hjn', by simp, a, by rw [hcs, if_pos ⟨t, t1, t2⟩]; exact ha, hV, fun w => (hV2 w).trans ⟨fun hw b hb hno => ?_, fun hw b hb => hw b (by omega)⟩⟩)
      rcases Nat.lt_succ_iff_lt_or_eq.1 hb with c | c
      · exact hw b c hno
      · exact absurd (t2.trans c.symm) (hno t t1)
    · have hno : ∀ t, t < k → h t ≠ j := fun t ht e => hin (by simpa using (hvm j).2 ⟨t, ht, e⟩)
      obtain ⟨k1, k2, k3⟩ := kv_at h3 hno
      simp only [toNat_nat]
      have hrep : (List.replicate n (0 : Int)).length = n := by simp
      refine gChk ⟨by omega, by omega⟩ (gChk ⟨by omega, by simp; omega⟩ ?_)
      have h0 : ∀ l, (List.replicate n (0 : Int)).getD l 0 = 0 := fun l => by
        simp only [List.getD_eq_getElem?_getD, List.getElem?_replicate]; split <;> rfl
      refine gBind (R := fun w : List Int => w.length = n ∧ ∀ l, l < n → (0 ≤ w.getD l 0 ∧ w.getD l 0 < p) ∧ cF p (w.getD l 0) = kv k h (MF p Y) j l)
        (gFor k (fun t (s : List Int × Int) => s.2 = (t : Int) ∧ s.1.length = n ∧ ∀ l, l < n → (0 ≤ s.1.getD l 0 ∧ s.1.getD l 0 < p) ∧ ((∀ u, t ≤ u → u < k → h u ≠ l) → cF p (s.1.getD l 0) = kv k h (MF p Y) j l)) (Nat.zero_le _) ⟨rfl, by simp, fun l hl => ?_⟩ ?_) ?_
      · dsimp only
        rw [setI_getD _ (by rw [hrep]; exact hjn'), h0]
        by_cases c : l = j
        · subst c
          rw [if_pos rfl]
          exact ⟨⟨by omega, by omega⟩, fun _ => by rw [k1, cF_one hp1]⟩
        · rw [if_neg c]
          exact ⟨⟨by omega, by omega⟩, fun hu => by rw [k3 l c fun t ht => hu t (Nat.zero_le _) ht, cF_zero]⟩
      · rintro t ⟨W, _⟩ ht ⟨rfl, hW, hW2⟩
        dsimp only at hW hW2 ⊢
        simp only [toNat_nat]
        refine gIte (fun ht1 => ?_) fun ht1 => gSome ⟨hW, fun l hl => ⟨(hW2 l hl).1, (hW2 l hl).2 fun u a b => by omega⟩⟩
        have htk : t < k := by omega
        have hlt := h3.lt t htk
        have hrow := hY.row t htk
        have bt := hY.bd t htk j hjn'
        have ee : (Y.getD t []).getD j 0 = ent Y t j := rfl
        simp only [hvt t htk, ee, toNat_nat]
        have hpos : 0 ≤ (p : Int) - ent Y t j := by omega
        refine gChk ⟨by omega, by omega⟩ (gChk ⟨⟨by omega, by omega⟩, ⟨by omega, by rw [hrow]; omega⟩, ⟨by omega, by omega⟩, by omega, by omega, by omega⟩ (gChk ⟨by omega, by omega⟩ (gSome ⟨htk, by simp, by simpa using hW, fun l hl => ?_⟩)))
        rw [setI_getD _ (by omega)]
        by_cases c : l = h t
        · rw [if_pos c]
          refine ⟨tmod_bd hpos, fun _ => ?_⟩
          rw [cF_negm bt, c, k2 t htk]; rfl
        · rw [if_neg c]
          refine ⟨(hW2 l hl).1, fun hu => (hW2 l hl).2 fun u a b => ?_⟩
          by_cases d : u = t
          · rw [d]; exact fun e => c e.symm
          · exact hu u (by omega) b
      · rintro W ⟨hW, hW2⟩
        have at' : ∀ i, i < a → ∀ l, ent (V ++ [W]) i l = ent V i l := fun i hi l => by unfold ent; rw [snoc_lt (by omega)]
        have ats : ∀ l, ent (V ++ [W]) a l = W.getD l 0 := fun l => by unfold ent; rw [snoc_at (by omega)]
        refine gChk (by rw [List.length_append, hlV]; simp; omega) (gChk ⟨by omega, by omega⟩ (gSome ⟨hjn', by simp, a + 1, by rw [hcs, if_neg (fun ⟨t, t1, t2⟩ => hno t t1 t2), ha], ⟨by rw [List.length_append, hlV]; rfl, fun i hi => ?_, fun i hi l hl => ?_⟩, fun w => ?_⟩))
        · rcases Nat.lt_succ_iff_lt_or_eq.1 hi with c | c
          · rw [snoc_lt (by omega)]; exact hV.row i c
          · rw [snoc_at (by omega)]; exact hW
        · rcases Nat.lt_succ_iff_lt_or_eq.1 hi with c | c
          · rw [at' i c]; exact hV.bd i c l hl
          · rw [c, ats]; exact (hW2 l hl).1
        · have elt : ∀ i, i < a → Sm n (fun l => MF p (V ++ [W]) i l * w l) = Sm n (fun l => MF p V i l * w l) := fun i hi => Sm_congr fun l _ => by unfold MF; rw [at' i hi]
          have eat : Sm n (fun l => MF p (V ++ [W]) a l * w l) = Sm n (fun l => kv k h (MF p Y) j l * w l) := Sm_congr fun l hl => by unfold MF; rw [ats, (hW2 l hl).2]; rfl
          constructor
          · intro hw b hb hnb
            rcases Nat.lt_succ_iff_lt_or_eq.1 hb with c | c
            · exact (hV2 w).1 (fun i hi => by rw [← elt i hi]; exact hw i (by omega)) b c hnb
            · rw [c, ← eat]; exact hw a (by omega)
          · intro hw i hi
            rcases Nat.lt_succ_iff_lt_or_eq.1 hi with c | c
            · rw [elt i c]; exact (hV2 w).2 (fun b hb hnb => hw b (by omega) hnb) i c
            · rw [c, eat]; exact hw j (by omega) hno
  · rintro V ⟨a, ha, hV, hV2⟩
    refine gBind (field_reduced_spec hp h7 hV (by omega) hn) ?_
    rintro _ ⟨k', h', K, _, rfl, hK, hRK, hKK⟩
    exact gSome ⟨k, h, Y, ⟨h1, h2, h3, h4⟩, .inr ⟨by omega, k', h', K, rfl, hK, hRK, fun w => by rw [← hKK, hV2, h3.rowS_iff]⟩⟩
theorem ind0_congr {n : Nat} {V W : (Nat → Fin p) → Prop} (e : ∀ w, V w ↔ W w) (s : Nat) : Ind0 n V s ↔ Ind0 n W s :=
  ⟨fun h v hv => h v ((e v).2 hv), fun h v hv => h v ((e v).1 hv)⟩
theorem Rr.rowS_perp_iff {k n : Nat} {h : Nat → Nat} {M : Nat → Nat → Fin p} (H : Rr k n h M) (w : Nat → Fin p) : RowS k n h M w ↔ ∀ u, Ker k n M u → Sm n (fun l => w l * u l) = 0 :=
  ⟨fun hw u hu => rowS_perp hw hu, H.rowS_of⟩
end
theorem kernel11 : Gets (field_Kernel 2 2 [[1, 1]]) (fun y => y.2.2.2 = 0 ∧ y.2.2.1 = [[1, 1]]) := by
  have hX : MOk 2 1 2 [[1, 1]] := ⟨rfl, fun i hi => by rw [show i = 0 by omega]; rfl, fun i hi j hj => by
    rw [show i = 0 by omega]
    rcases (show j = 0 ∨ j = 1 by omega) with rfl | rfl <;> decide⟩
  have one : ∀ j, j < 2 → MF 2 [[1, 1]] 0 j = 1 := fun j hj => by rcases (show j = 0 ∨ j = 1 by omega) with rfl | rfl <;> decide
  have hR : Rr 1 2 (fun _ => 0) (MF 2 [[1, 1]]) := ⟨fun i j _ _ => by omega, fun i _ => by omega, fun i hi => by rw [show i = 0 by omega]; exact one 0 (by omega), fun i j _ _ _ => by omega, fun i j _ h => by omega⟩
  refine (show Gets (field_Kernel ((2 : Nat) : Int) ((2 : Nat) : Int) [[1, 1]]) _ from Kernel_spec fld2 (by omega) hX (by omega) (by omega) (CM.of (by omega) (by omega) (by omega) hX)).mono ?_
  rintro y ⟨k, h, Y, ⟨_, hY, hRY, hKY⟩, hy | ⟨_, k', h', K, rfl, hK, hRK, hKK⟩⟩
  · omega
  obtain ⟨rfl, eh, eM⟩ := hR.same hRY fld2.one hKY
  have e0 : h 0 = 0 := (eh 0 (by omega)).symm
  have hker : ∀ w : Nat → Fin 2, Ker k' 2 (MF 2 K) w ↔ Ker 1 2 (MF 2 [[1, 1]]) w := fun w => by
    rw [hKK]
    have hs : Sm 2 (fun j => MF 2 [[1, 1]] 0 j * w j) = w 0 + w 1 := by
      simp only [Sm, one 0 (by omega), one 1 (by omega)]
      grind
    have hq : ∀ l, l < 2 → Sm 1 (fun t => w (h t) * MF 2 Y t l) = w 0 := fun l hl => by
      simp only [Sm, e0, ← eM 0 (by omega) l hl, one l hl]
      grind
    have dec : ∀ a b : Fin 2, b = a ↔ a + b = 0 := by decide
    constructor
    · intro hw i hi
      rw [show i = 0 by omega, hs]
      have := hw 1 (by omega)
      rw [hq 1 (by omega)] at this
      exact (dec _ _).1 this
    · intro hw l hl
      rw [hq l hl]
      have := hw 0 (by omega)
      rw [hs] at this
      rcases (show l = 0 ∨ l = 1 by omega) with rfl | rfl
      · rfl
      · exact (dec _ _).2 this
  obtain ⟨rfl, _, eK⟩ := hRK.same hR fld2.one hker
  exact ⟨rfl, hK.ext hX eK⟩
theorem rotakeep_FieldKernel_law (P C : Int) (X : List (List Int)) : rotakeep_FieldKernel P C X = some true := by
  refine Gets.eq ?_
  unfold rotakeep_FieldKernel
  refine gBind kernel11 ?_
  rintro y ⟨y1, y2⟩
  refine gIte (fun _ => ?_) fun q => absurd (fun w => w y1) q
  rw [y2, Rows_spec]
  refine gBindE rfl (gIte (fun q => absurd (by simp) q) fun _ => ?_)
  by_cases hX : CM P C X
  case neg => exact gBind (Kernel_bad hX) fun y hy => gIte (fun _ => gSome (by rw [hy.2]; rfl)) fun q => absurd hy.1 q
  obtain ⟨p, n, inst, rfl, rfl, hn8, h7, hp, hr6, hXo⟩ := hX.elim
  have h1 := hp.one
  generalize hr : X.length = r at hr6 hXo
  refine gBind (Kernel_spec hp h7 hXo hr6 hn8 hX) ?_
  rintro _ ⟨k, h, Y, ⟨hkr, hY, hRY, hKY⟩, ⟨_, rfl⟩ | ⟨hnk, k', h', K, rfl, hK, hRK, hKK⟩⟩
  · exact gIte (fun _ => gSome (by decide)) fun q => absurd (by decide) q
  dsimp only
  refine gIte (fun q => absurd rfl q) fun _ => ?_
  have hsum := hRY.sum hRK hp hKK
  have hKc := hX.of2 (show k' ≤ 6 by omega) hn8 hK
  refine gBind (Kernel_spec hp h7 hK (by omega) hn8 hKc) ?_
  rintro _ ⟨kk, hh, YK, ⟨_, hYK, hRYK, hKYK⟩, hlar | ⟨_, kb, hb, B, rfl, hB, hRB, hKB⟩⟩
  · obtain ⟨e, _⟩ := hRK.same hRYK h1 hKYK
    omega
  refine gBind (Reduced_spec hp h7 hXo hr6 hn8 hX) ?_
  rintro _ ⟨k2, h2, Y2, rfl, _, hY2, hRY2, hKY2⟩
  have eB : B = Y2 := by
    have hk : ∀ w, Ker kb n (MF p B) w ↔ Ker k2 n (MF p Y2) w := fun w => by
      rw [hKB, hRYK.rowS_perp_iff, ← hKY2, hKY, hRY.turn hRK hKK, hRK.rowS_perp_iff]
      exact ⟨fun q u hu => q u ((hKYK u).1 hu), fun q u hu => q u ((hKYK u).2 hu)⟩
    obtain ⟨rfl, _, e⟩ := hRB.same hRY2 h1 hk
    exact hB.ext hY2 e
  subst eB
  refine gBind (Linear_spec hp h7 hXo hr6 hn8 hX) ?_
  rintro _ ⟨KX, rfl, hFX, hKX⟩
  refine gBind (Linear_spec hp h7 hK (by omega) hn8 hKc) ?_
  rintro _ ⟨KK, rfl, hFK, hKK2⟩
  dsimp only
  refine gIte (fun q => absurd rfl q) fun _ => ?_
  have hM := aug_mat hn8 hFX hKX colInd0 (fun s t a b => ColInd.sub a b) fun I J hI hJ a b c => col_aug hp hI hJ a b c
  obtain ⟨D, d1, d2, d3⟩ := hM.Dual_ok
  refine gBindE d1 ?_
  dsimp only
  have mX : ∀ s, s ∈ KX ↔ s < 2 ^ n ∧ Ind0 n (Ker k n (MF p Y)) s ∧ cnt n s = k := fun s => by
    rw [hKX, ← hRY.most hp]
    have e := ind0_congr (n := n) hKY
    exact ⟨fun ⟨a, b, c⟩ => ⟨a, (e s).1 b, fun t ht w => c t ht ((e t).2 w)⟩, fun ⟨a, b, c⟩ => ⟨a, (e s).2 b, fun t ht w => c t ht ((e t).1 w)⟩⟩
  have mK : ∀ s, s ∈ KK ↔ s < 2 ^ n ∧ Ind0 n (Ker k' n (MF p K)) s ∧ cnt n s = k' := fun s => by
    rw [hKK2, ← hRK.most hp]; exact Iff.rfl
  have eD : D = KK := d2.toFam.ext hFK fun x => by
    rw [d3, mK]
    constructor
    · rintro ⟨b, b1, rfl⟩
      obtain ⟨c1, c2⟩ := (mX b).1 b1
      exact ⟨cpl_lt n b, (hRY.bases hRK hp hKK c1).1 c2⟩
    · rintro ⟨c1, c2⟩
      refine ⟨cpl n x, (mX _).2 ⟨cpl_lt n x, (hRY.bases hRK hp hKK (cpl_lt n x)).2 ?_⟩, (cpl_cpl c1).symm⟩
      rw [cpl_cpl c1]; exact c2
  subst eD
  rw [if_pos (by simp), Rows_spec]
  refine gBindE rfl ?_
  rw [if_pos (by simp), SameMatroid_self]
  exact gBindE rfl (gSome (by simp))
end Go.SH
