/-
 The functionals tell all apart; leading monomials are as many as the restrictions say. Conditions: vertices below 11.
-/
import Derived.Test.YtlpikingpnenkaaLMh
set_option linter.unusedSimpArgs false
set_option linter.unusedVariables false
namespace Go.SH
open Go Go.AX
theorem dg_app (g : Nat → Nat) : ∀ (V W : List Nat), dg (V ++ W) g = dg V g + dg W g
 | [], W => by simp [dg]
 | v :: V, W => by simp only [List.cons_append, dg]; rw [dg_app g V W]; omega
theorem dg_zero {g : Nat → Nat} {V : List Nat} (h : ∀ v, v ∈ V → g v = 0) : dg V g = 0 := by
 induction V with
 | nil => rfl
 | cons v V ih => simp only [dg]; rw [h v List.mem_cons_self, ih fun u hu => h u (List.mem_cons_of_mem _ hu)]
theorem dg_part {g : Nat → Nat} {V J : List Nat} (hV : V.Nodup) (hJ : J.Nodup) (hs : ∀ v, v ∈ J → v ∈ V) (h : ∀ v, v ∈ V → v ∉ J → g v = 0) : dg V g = dg J g := by
 induction J generalizing V with
 | nil => exact dg_zero fun v hv => h v hv (by simp)
 | cons x J ih =>
  have hx := hs x List.mem_cons_self
  rw [dg_perm (List.perm_cons_erase hx)]
  simp only [dg]
  have hJ' := List.nodup_cons.1 hJ
  rw [ih (hV.erase x) hJ'.2 (fun v hv => (List.mem_erase_of_ne (by rintro rfl; exact hJ'.1 hv)).2 (hs v (List.mem_cons_of_mem _ hv))) fun v hv hn => by
   have := (List.Nodup.mem_erase_iff hV).1 hv
   exact h v this.2 fun q => (List.mem_cons.1 q).elim this.1 hn]
section
variable {V : List Nat} {m d : Nat} {F R : Nat → List Nat}
theorem cell_ups (h : Shl V m d F R) {i : Nat} (hi : i < m) {g : Nat → Nat} (hs : Sp g (F i)) (hr : ∀ v, v ∈ R i → 0 < g v) : ∃ g0, g = ups g0 (R i) ∧ Sp g0 (F i) := by
 refine ⟨fun v => g v - if v ∈ R i then 1 else 0, funext fun v => ?_, fun v hv => hs v (by simp only at hv; omega)⟩
 rw [ups_at _ (h.rnd i hi)]
 by_cases q : v ∈ R i
 ·have := hr v q
  simp only [if_pos q]; omega
 ·simp only [if_neg q]; omega
theorem funs_inj (h : Shl V m d F R) (hV : V.Nodup) (h11 : ∀ v, v ∈ V → v < 11) {j k : Nat} (hj : j ≤ d) {c : (Nat → Nat) → F11} (hc : Xs V m F j k c) (hz : ∀ φ, φ ∈ funs F R j k m → φ c = 0) : ∀ g, c g = 0 := by
 have cells : ∀ n i, i < m → m ≤ i + n → ∀ g, Sp g (F i) → (∀ v, v ∈ R i → 0 < g v) → c g = 0 := by
  intro n
  induction n with
  | zero => intro i hi hn; omega
  | succ n ihn =>
   intro i hi hn
   have hnd := h.nd i hi
   have hrn := h.rnd i hi
   have hap : (F i).take j ++ (F i).drop j = F i := List.take_append_drop j (F i)
   have hJl : ((F i).take j).length = j := by rw [List.length_take, h.len i hi]; omega
   have hJs : ∀ v, v ∈ (F i).take j → v ∈ F i := fun v hv => List.mem_of_mem_take hv
   have hGs : ∀ v, v ∈ (F i).drop j → v ∈ F i := fun v hv => List.mem_of_mem_drop hv
   have hJn : ((F i).take j).Nodup := hnd.sublist (List.take_sublist _ _)
   have hGn : ((F i).drop j).Nodup := hnd.sublist (List.drop_sublist _ _)
   have key : ∀ t g0, Sp g0 (F i) → dg ((F i).take j) g0 = t → c (ups g0 (R i)) = 0 := by
    intro t
    induction t with
    | zero =>
     intro g0 hs ht
     refine Classical.byContradiction fun hne => ?_
     have hM := (hc.1 _ hne).1
     have hz0 : ∀ v, v ∉ V → g0 v = 0 := fun v hv => by
      have := hM.1 v hv
      rw [ups_at _ hrn] at this; omega
     have hM0 : Mo V (dg V g0) g0 := ⟨hz0, rfl⟩
     have hM1 := (ups_Mo hV hrn fun v hv => h.sub i hi v (h.rsub i hi v hv)).2 hM0
     have hk : k = dg V g0 + (R i).length := by rw [← hM.2, hM1.2]
     have hJ0 : ∀ v, v ∈ (F i).take j → g0 v = 0 := fun v hv => by have := dg_le (g := g0) hv; omega
     have hG : Mo ((F i).drop j) (k - (R i).length) g0 := by
      refine ⟨fun v hv => ?_, ?_⟩
      ·rcases Nat.eq_zero_or_pos (g0 v) with q | q
       ·exact q
       ·have hvF := hs v q
        rw [← hap, List.mem_append] at hvF
        exact hvF.elim (fun w => hJ0 v w) fun w => absurd w hv
      ·have e1 : dg V g0 = dg (F i) g0 := dg_part hV hnd (h.sub i hi) fun v _ hn => by
        rcases Nat.eq_zero_or_pos (g0 v) with q | q
        ·exact q
        ·exact absurd (hs v q) hn
       have e2 : dg (F i) g0 = dg ((F i).take j) g0 + dg ((F i).drop j) g0 := by rw [← dg_app, hap]
       omega
     refine hne (hz (fun c => c (ups g0 (R i))) (funs_mem.2 ⟨i, hi, ?_⟩))
     unfold fun1
     rw [if_pos (by omega)]
     exact List.mem_map.2 ⟨g0, (ml_mem hGn).2 hG, rfl⟩
    | succ t iht =>
     intro g0 hs ht
     have hex : ∃ v, v ∈ (F i).take j ∧ 0 < g0 v := Classical.byContradiction fun hno => by
      have := dg_zero (V := (F i).take j) (g := g0) fun v hv => by
       rcases Nat.eq_zero_or_pos (g0 v) with q | q
       ·exact q
       ·exact absurd ⟨v, hv, q⟩ hno
      omega
     obtain ⟨v, v1, v2⟩ := hex
     have e0 : up (upd g0 v (g0 v - 1)) v = g0 := by
      unfold up
      rw [upd_at, upd_upd, show g0 v - 1 + 1 = g0 v by omega, upd_self]
     have hdg := dg_set (g := g0) (g0 v - 1) v1 hJn
     generalize hg' : upd g0 v (g0 v - 1) = g' at e0 hdg
     have hs' : Sp g' (F i) := by rw [← e0] at hs; exact Sp_up hs
     have hy : ∀ u, u ∈ V → u ∉ (F i).take j → c (ups (up g' u) (R i)) = 0 := by
      intro u hu hn2
      by_cases huF : u ∈ F i
      ·refine iht (up g' u) (fun w hw => ?_) ?_
       ·unfold up upd at hw
        split at hw
        ·rename_i q; rw [q]; exact huF
        ·exact hs' w hw
       ·unfold up
        rw [dg_upd _ hn2]; omega
      ·refine Classical.byContradiction fun hne => ?_
       obtain ⟨_, l, l1, l2⟩ := hc.1 _ hne
       obtain ⟨l', a1, a2, a3⟩ := h.first l1 l2
       rcases Nat.lt_or_ge i l' with q | q
       ·exact hne (ihn l' (by omega) (by omega) _ a2 a3)
       ·rcases Nat.lt_or_ge l' i with w | w
        ·have hsm : Sp (ups g' (R i)) (F l') := fun x hx => a2 x (by
          rw [ups_at _ hrn] at hx ⊢
          unfold up upd
          split
          ·omega
          ·exact hx)
         have hsi : Sp (ups g' (R i)) (F i) := fun x hx => by
          rw [ups_at _ hrn] at hx
          by_cases z : x ∈ R i
          ·exact h.rsub i hi x z
          ·rw [if_neg z] at hx; exact hs' x (by omega)
         exact (h.new i hi _ hsi).1 ⟨l', w, hsm⟩ fun x hx => by rw [ups_at _ hrn, if_pos hx]; omega
        ·have : l' = i := by omega
         subst this
         refine huF (a2 u ?_)
         rw [ups_at _ hrn]
         unfold up
         rw [upd_at]; omega
     have hrel : ∀ a, a < ((F i).take j).length → Ls ((F i).take j) (fun u => zp u a * c (ups (up g' u) (R i))) = 0 := fun a ha => by
      rw [← Ls_part hV hJn (fun u hu => h.sub i hi u (hJs u hu)) fun u hu hn2 => by rw [hy u hu hn2, f_mz]]
      have := hc.2 a (by omega) (ups g' (R i))
      unfold Dr at this
      rw [← this]
      exact Ls_congr fun u _ => by rw [ups_up _ hrn]
     have := vdm _ hJn (fun u hu => h11 u (h.sub i hi u (hJs u hu))) _ hrel v v1
     rw [e0] at this; exact this
   intro g hs hr
   obtain ⟨g0, rfl, hs0⟩ := cell_ups h hi hs hr
   exact key _ g0 hs0 rfl
 intro g
 refine Classical.byContradiction fun hne => ?_
 obtain ⟨_, i, hi, hs⟩ := hc.1 g hne
 obtain ⟨l, a1, a2, a3⟩ := h.first hi hs
 exact hne (cells m l (by omega) (by omega) g a2 a3)
/-! ### counted -/
variable {co : (Nat → Nat) → Nat}
/-- A number for each monomial. -/
structure Cod (V : List Nat) (co : (Nat → Nat) → Nat) : Prop where
 inj : ∀ k g h, k < 16 → Mo V k g → Mo V k h → co g = co h → g = h
 bd : ∀ k, ∃ B, ∀ g, Mo V k g → co g ≤ B
 up : ∀ u, u ∈ V → ∃ e, ∀ g, co (up g u) = co g + e
theorem x_up (h : Shl V m d F R) (hV : V.Nodup) (h11 : ∀ v, v ∈ V → v < 11) (hco : Cod V co) {j k : Nat} (hj : j ≤ d) (hk : k < 16) : cn V k (Ld co (Xs V m F j k)) ≤ Un m d R j k := by
 have := Ld_le hV (fun g e hg he => hco.inj k g e hk hg he) (Xs_spc j k) (Φ := funs F R j k m) funs_lin fun c hc hz => funs_inj h hV h11 hj hc hz
 rw [funs_len h j k m (Nat.le_refl _)] at this
 exact this
theorem x_zero (h : Shl V m d F R) (hV : V.Nodup) (k : Nat) : Un m d R 0 k ≤ cn V k (Ld co (Xs V m F 0 k)) := by
 classical
 -- the monomials of the cells, one after another
 let L : Nat → List (Nat → Nat) := fun i => if (R i).length ≤ k then (ml (F i) (k - (R i).length)).map fun g => ups g (R i) else []
 have hL : ∀ i, i < m → ∀ g, g ∈ L i → Mo V k g ∧ Sp g (F i) ∧ ∀ v, v ∈ R i → 0 < g v := fun i hi g hg => by
  have hg' : g ∈ (if (R i).length ≤ k then (ml (F i) (k - (R i).length)).map fun g => ups g (R i) else []) := hg
  split at hg'
  ·rename_i hle
   obtain ⟨g0, g1, rfl⟩ := List.mem_map.1 hg'
   have hm := (ml_mem (h.nd i hi)).1 g1
   have hs0 : Sp g0 (F i) := fun v hv => Classical.byContradiction fun q => by have := hm.1 v q; omega
   have hM : Mo V (k - (R i).length) g0 := ⟨fun v hv => hm.1 v fun q => hv (h.sub i hi v q), by rw [dg_part hV (h.nd i hi) (h.sub i hi) fun v _ q => hm.1 v q]; exact hm.2⟩
   have hM1 := (ups_Mo hV (h.rnd i hi) fun v hv => h.sub i hi v (h.rsub i hi v hv)).2 hM
   rw [show k - (R i).length + (R i).length = k by omega] at hM1
   refine ⟨hM1, fun v hv => ?_, fun v hv => by rw [ups_at _ (h.rnd i hi), if_pos hv]; omega⟩
   rw [ups_at _ (h.rnd i hi)] at hv
   by_cases z : v ∈ R i
   ·exact h.rsub i hi v z
   ·rw [if_neg z] at hv; exact hs0 v (by omega)
  ·cases hg'
 have hLl : ∀ i, i < m → (L i).length = if (R i).length ≤ k then nM (d - 0) (k - (R i).length) else 0 := fun i hi => by
  show (if (R i).length ≤ k then (ml (F i) (k - (R i).length)).map fun g => ups g (R i) else []).length = _
  split
  ·rw [List.length_map, ml_len, h.len i hi, Nat.sub_zero]
  ·rfl
 have hLn : ∀ i, i < m → (L i).Nodup := fun i hi => by
  show (if (R i).length ≤ k then (ml (F i) (k - (R i).length)).map fun g => ups g (R i) else []).Nodup
  split
  ·unfold List.Nodup
   rw [List.pairwise_map]
   refine List.Pairwise.imp ?_ (ml_nodup (h.nd i hi))
   intro a b hab e
   refine hab (funext fun v => ?_)
   have := congrFun e v
   rw [ups_at _ (h.rnd i hi), ups_at _ (h.rnd i hi)] at this
   omega
  ·exact List.Pairwise.nil
 have key : ∀ n, n ≤ m → ∃ l : List (Nat → Nat), l.Nodup ∧ l.length = s0 (fun i => if (R i).length ≤ k then nM (d - 0) (k - (R i).length) else 0) n ∧ ∀ g, g ∈ l ↔ ∃ i, i < n ∧ g ∈ L i := by
  intro n
  induction n with
  | zero => intro _; exact ⟨[], List.Pairwise.nil, rfl, fun g => by simp⟩
  | succ n ih =>
   intro hn
   obtain ⟨l, l1, l2, l3⟩ := ih (by omega)
   refine ⟨l ++ L n, ?_, ?_, fun g => ?_⟩
   ·rw [List.nodup_append]
    refine ⟨l1, hLn n (by omega), fun a ha b hb e => ?_⟩
    subst e
    obtain ⟨i, i1, i2⟩ := (l3 a).1 ha
    have p1 := hL i (by omega) a i2
    have p2 := hL n (by omega) a hb
    exact (h.new n (by omega) a p2.2.1).1 ⟨i, i1, p1.2.1⟩ p2.2.2
   ·rw [List.length_append, l2, hLl n (by omega)]; rfl
   ·rw [List.mem_append, l3]
    constructor
    ·rintro (⟨i, i1, i2⟩ | q)
     ·exact ⟨i, by omega, i2⟩
     ·exact ⟨n, by omega, q⟩
    ·rintro ⟨i, i1, i2⟩
     rcases Nat.lt_or_ge i n with q | q
     ·exact .inl ⟨i, q, i2⟩
     ·rw [show i = n by omega] at i2; exact .inr i2
 obtain ⟨l, l1, l2, l3⟩ := key m (Nat.le_refl _)
 have := cn_of_list (V := V) (k := k) (S := Ld co (Xs V m F 0 k)) hV l1 fun g hg => by
  obtain ⟨i, i1, i2⟩ := (l3 g).1 hg
  have p := hL i i1 g i2
  refine ⟨p.1, fun g' => if g' = g then 1 else 0, ⟨fun g' h' => ?_, fun a ha => absurd ha (Nat.not_lt_zero _)⟩, ?_, fun g' hg' => if_neg fun e => by rw [e] at hg'; omega⟩
  ·by_cases e : g' = g
   ·rw [e]; exact ⟨p.1, i, i1, p.2.1⟩
   ·exact absurd (if_neg e) h'
  ·show (if g = g then (1 : F11) else 0) ≠ 0
   rw [if_pos rfl]; exact fld11.one
 rw [l2] at this
 exact this
/-- One linear form more. -/
theorem x_step (hV : V.Nodup) (hco : Cod V co) {j k : Nat} (hk : k + 1 < 16) : cn V (k + 1) (Ld co (Xs V m F j (k + 1))) ≤ cn V (k + 1) (Ld co (Xs V m F (j + 1) (k + 1))) + cn V k (Ld co (Xs V m F j k)) := by
 obtain ⟨l1, a1, a2, a3⟩ := cn_list hV (k + 1) (Ld co (Xs V m F (j + 1) (k + 1)))
 obtain ⟨l2, b1, b2, b3⟩ := cn_list hV k (Ld co (Xs V m F j k))
 have hX : ∀ k, ∀ c, Xs V m F j k c → ∀ g, c g ≠ 0 → Mo V k g := fun k c hc g hg => (hc.1 g hg).1
 have hX' : ∀ c, Xs V m F (j + 1) (k + 1) c → ∀ g, c g ≠ 0 → Mo V (k + 1) g := fun c hc g hg => (hc.1 g hg).1
 obtain ⟨B1, hB1⟩ := hco.bd (k + 1)
 obtain ⟨B2, hB2⟩ := hco.bd k
 have := Ld_le hV (fun g e hg he => hco.inj (k + 1) g e hk hg he) (Xs_spc (V := V) (m := m) (F := F) j (k + 1))
  (Φ := (l1.map fun g (c : (Nat → Nat) → F11) => c g) ++ l2.map fun g (c : (Nat → Nat) → F11) => Dr V j c g) (fun φ hφ => by
   rcases List.mem_append.1 hφ with q | q
   ·obtain ⟨g, _, rfl⟩ := List.mem_map.1 q
    exact ⟨rfl, fun _ _ => rfl, fun _ _ => rfl⟩
   ·obtain ⟨g, _, rfl⟩ := List.mem_map.1 q
    refine ⟨Ls_zero fun u _ => f_mz _, fun c e => ?_, fun a c => ?_⟩
    ·unfold Dr
     rw [← Ls_add]
     exact Ls_congr fun u _ => f_m1 _ _ _
    ·unfold Dr
     rw [← Ls_mul]
     exact Ls_congr fun u _ => f_m2 _ _ _) fun c hc hz => by
   have hD : ∀ g, Dr V j c g = 0 := Ld_det (hX k) hB2 (fun g e hg he => hco.inj k g e (by omega) hg he) (Xs_Dr hV j hc) fun g hg hl =>
    hz (fun c => Dr V j c g) (List.mem_append.2 (.inr (List.mem_map.2 ⟨g, (b3 g).2 ⟨hg, hl⟩, rfl⟩)))
   have hc' : Xs V m F (j + 1) (k + 1) c := ⟨hc.1, fun a ha g => by
    rcases Nat.lt_or_ge a j with q | q
    ·exact hc.2 a q g
    ·rw [show a = j by omega]; exact hD g⟩
   exact Ld_det hX' hB1 (fun g e hg he => hco.inj (k + 1) g e hk hg he) hc' fun g hg hl =>
    hz (fun c => c g) (List.mem_append.2 (.inl (List.mem_map.2 ⟨g, (a3 g).2 ⟨hg, hl⟩, rfl⟩)))
 rw [List.length_append, List.length_map, List.length_map, a2, b2] at this
 exact this
end
end Go.SH
