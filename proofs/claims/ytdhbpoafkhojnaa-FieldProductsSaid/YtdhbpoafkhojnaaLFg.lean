/-
  Determinants modulo p: their law, CAUCHY, BINET. Conditions: none.
-/
import Derived.Test.YtdhbpoafkhojnaaLKb
import Derived.Test.YtdhbpoafkhojnaaLKf
import Derived.Test.YtdhbpoafkhojnaaLRm
set_option linter.unusedSimpArgs false
set_option linter.unusedVariables false
set_option linter.unusedSectionVars false
namespace Go.SH
open Go Go.AX
section
variable {p : Nat} [NeZero p]
theorem da1 (a b c : Fin p) : a * (b * c) = b * (a * c) := by grind
theorem da2 (a b c d : Fin p) : a * (b * c + d) = b * (a * c) + a * d := by grind
theorem da3 (a : Fin p) : a * 0 = 0 := by grind
theorem da4 (a : Fin p) : 0 * a = 0 := by grind
theorem da5 (s a b x y : Fin p) : s * (a * x + y) * b = a * (s * x * b) + s * y * b := by grind
theorem da6 (s a v b c : Fin p) : s * v * (a * b + c) = a * (s * v * b) + s * v * c := by grind
theorem da7 (a b c d : Fin p) (h : a = - b) (h2 : c = d) : a * c + b * d = 0 := by grind
theorem da8 (a b : Fin p) : a + b + 0 = a + b := by grind
theorem da9 (a b c d : Fin p) : (a + b) + (c + d) = (a + c) + (b + d) := by grind
theorem da10 (s u a b d e : Fin p) (h : s = - e) : s * a * (u * b * d) + u * b * (e * a * d) = 0 := by grind
theorem da11 (x : Fin p) : 1 * 1 * x = x := by grind
/-- The determinant of n vectors of n places. -/
def D : Nat → Vs p → Fin p
  | 0, _ => 1
  | n + 1, v => Sm (n + 1) (fun i => sg (n - i) * v i n * D n (fun k => v (sk i k)))
theorem D_congr : ∀ {n : Nat} {v w : Vs p}, (∀ i, i < n → ∀ j, j < n → v i j = w i j) → D n v = D n w
  | 0, _, _, _ => rfl
  | n + 1, v, w, h => Sm_congr fun i hi => by
    rw [h i hi n (by omega), D_congr fun k hk j hj => h (sk i k) (sk_lt hk) j (by omega)]
theorem sk_up_eq (v : Vs p) (i : Nat) (x : Nat → Fin p) : (fun k => up v i x (sk i k)) = fun k => v (sk i k) := by
  funext k; rw [up_ne _ _ (sk_ne i k)]
theorem sk_up_ne (v : Vs p) {i t n : Nat} (ht : t < n + 1) (hi : i < n + 1) (hne : t ≠ i) (x : Nat → Fin p) : ∃ t', t' < n ∧ (fun k => up v t x (sk i k)) = up (fun k => v (sk i k)) t' x := by
  obtain ⟨t', t1, t2⟩ := sk_of hi ht hne
  refine ⟨t', t1, ?_⟩
  funext k
  unfold up
  by_cases c : k = t'
  · rw [if_pos c, c, if_pos t2]
  · rw [if_neg c, if_neg (fun e => c (sk_inj (t2 ▸ e)))]
theorem D_lin : ∀ (n : Nat) (v : Vs p) (t : Nat), t < n → ∀ (a : Fin p) (x y : Nat → Fin p), D n (up v t fun j => a * x j + y j) = a * D n (up v t x) + D n (up v t y)
  | 0, v, t, h, a, x, y => by omega
  | n + 1, v, t, h, a, x, y => by
    show Sm _ _ = a * Sm _ _ + Sm _ _
    rw [← Sm_mul, ← Sm_add]
    refine Sm_congr fun i hi => ?_
    by_cases c : t = i
    · subst c
      rw [sk_up_eq, sk_up_eq, sk_up_eq, up_at, up_at, up_at]
      exact da5 _ _ _ _ _
    · obtain ⟨t', t1, t2⟩ := sk_up_ne v h hi c (fun j => a * x j + y j)
      obtain ⟨u, u1, u2⟩ := sk_up_ne v h hi c x
      obtain ⟨w, w1, w2⟩ := sk_up_ne v h hi c y
      obtain ⟨s, s1, s2⟩ := sk_of hi h c
      have e1 : ∀ z : Nat → Fin p, (fun k => up v t z (sk i k)) = up (fun k => v (sk i k)) s z := fun z => by
        funext k
        unfold up
        by_cases d : k = s
        · rw [if_pos d, d, if_pos s2]
        · rw [if_neg d, if_neg (fun e => d (sk_inj (s2 ▸ e)))]
      rw [e1, e1, e1, D_lin n _ s s1, up_ne _ _ (Ne.symm c), up_ne _ _ (Ne.symm c), up_ne _ _ (Ne.symm c)]
      exact da6 _ _ _ _ _
theorem Sm_two {f : Nat → Fin p} {n k l : Nat} (hk : k < n) (hl : l < n) (hne : k ≠ l) (h : ∀ i, i < n → i ≠ k → i ≠ l → f i = 0) : Sm n f = f k + f l := by
  obtain ⟨m, rfl⟩ : ∃ m, n = m + 1 := ⟨n - 1, by omega⟩
  obtain ⟨t, t1, t2⟩ := sk_of hk hl (Ne.symm hne)
  rw [Sm_sk f hk, Sm_one (k := t) t1 fun i hi hn => h _ (sk_lt hi) (sk_ne k i) (fun e => hn (sk_inj (e.trans t2.symm))), t2]
theorem D_adj : ∀ (n : Nat) (v : Vs p) (t : Nat), t + 1 < n → (∀ j, j < n → v t j = v (t + 1) j) → D n v = 0
  | 0, v, t, h, e => by omega
  | n + 1, v, t, h, e => by
    show Sm _ _ = _
    rw [Sm_two (k := t) (l := t + 1) (by omega) h (by omega) fun i hi h1 h2 => ?_]
    · have e1 : D n (fun k => v (sk (t + 1) k)) = D n (fun k => v (sk t k)) := D_congr fun k hk j hj => by
        by_cases c : k = t
        · subst c
          rw [show sk (k + 1) k = k by unfold sk; rw [if_pos (by omega)], show sk k k = k + 1 by unfold sk; rw [if_neg (by omega)], e j (by omega)]
        · rw [show sk (t + 1) k = sk t k by unfold sk; split <;> split <;> omega]
      have e2 : (sg (n - t) : Fin p) = - sg (n - (t + 1)) := by
        rw [show n - t = (n - (t + 1)) + 1 by omega, sg_succ]
      rw [e1, e2, e n (by omega)]
      exact da12 _ _ _
    · rcases Nat.lt_or_ge i t with c | c
      · rw [D_adj n (fun k => v (sk i k)) (t - 1) (by omega) fun j hj => ?_]
        · exact da3 _
        · show v (sk i (t - 1)) j = v (sk i (t - 1 + 1)) j
          rw [show sk i (t - 1) = t by unfold sk; rw [if_neg (by omega)]; omega, show sk i (t - 1 + 1) = t + 1 by unfold sk; rw [if_neg (by omega)]; omega]
          exact e j (by omega)
      · rw [D_adj n (fun k => v (sk i k)) t (by omega) fun j hj => ?_]
        · exact da3 _
        · show v (sk i t) j = v (sk i (t + 1)) j
          rw [show sk i t = t by unfold sk; rw [if_pos (by omega)], show sk i (t + 1) = t + 1 by unfold sk; rw [if_pos (by omega)]]
          exact e j (by omega)
where
  da12 (s v d : Fin p) : - s * v * d + s * v * d = 0 := by grind
theorem D_alt (n : Nat) : Alt n n (D n : Vs p → Fin p) := ⟨fun _ _ h => D_congr h, D_lin n, D_adj n⟩
/-! ### subsets -/
theorem cnt_lo {m s : Nat} (h : s < 2 ^ m) : cnt (m + 1) s = cnt m s := by rw [cnt, Nat.testBit_lt_two_pow h]; simp
theorem elm_lo {m s : Nat} (h : s < 2 ^ m) : elm (m + 1) s = elm m s := by rw [elm_succ, Nat.testBit_lt_two_pow h]; simp
theorem hi_bit {m s : Nat} (h : s < 2 ^ m) : (2 ^ m + s).testBit m = true ∧ ∀ j, j < m → (2 ^ m + s).testBit j = s.testBit j :=
  ⟨by rw [Nat.testBit_two_pow_add_eq, Nat.testBit_lt_two_pow h]; rfl, fun j hj => Nat.testBit_two_pow_add_gt hj s⟩
theorem cnt_hi {m s : Nat} (h : s < 2 ^ m) : cnt (m + 1) (2 ^ m + s) = cnt m s + 1 := by
  rw [cnt, if_pos (hi_bit h).1, cnt_congr (hi_bit h).2]
theorem elm_hi {m s : Nat} (h : s < 2 ^ m) : elm (m + 1) (2 ^ m + s) = elm m s ++ [m] := by
  rw [elm_succ, if_pos (hi_bit h).1]
  congr 1
  unfold elm
  exact List.filter_congr fun i hi => (hi_bit h).2 i (List.mem_range.1 hi)
theorem elm_snoc {m s k : Nat} (h : k < cnt m s) : (elm m s ++ [m]).getD k 0 = (elm m s).getD k 0 := by
  rw [List.getD_eq_getElem?_getD, List.getElem?_append_left (by rw [elm_len]; exact h), ← List.getD_eq_getElem?_getD]
theorem elm_last {m s : Nat} : (elm m s ++ [m]).getD (cnt m s) 0 = m := by
  rw [List.getD_eq_getElem?_getD, List.getElem?_append_right (by rw [elm_len]; exact Nat.le_refl _), elm_len, Nat.sub_self]; rfl
/-- Some places alone; the vectors that are 1 there. -/
def rs (m s : Nat) (v : Vs p) : Vs p := fun i k => v i ((elm m s).getD k 0)
def un (m s : Nat) : Vs p := fun i j => if j = (elm m s).getD i 0 then 1 else 0
def tr1 (m : Nat) (x : Nat → Fin p) : Nat → Fin p := fun j => if j < m then x j else 0
def tr (m : Nat) (v : Vs p) : Vs p := fun i => tr1 m (v i)
theorem tr_up (m : Nat) (v : Vs p) (i : Nat) (x : Nat → Fin p) : tr m (up v i x) = up (tr m v) i (tr1 m x) := by
  funext k
  unfold tr up
  split <;> rfl
theorem tr1_lin (m : Nat) (a : Fin p) (x y : Nat → Fin p) : tr1 m (fun j => a * x j + y j) = fun j => a * tr1 m x j + tr1 m y j := by
  funext j
  unfold tr1
  split
  · rfl
  · exact tl a
where
  tl (a : Fin p) : 0 = a * 0 + 0 := by grind
theorem tr1_lt {m j : Nat} (h : j < m) (x : Nat → Fin p) : tr1 m x j = x j := if_pos h
theorem tr1_ge {m j : Nat} (h : ¬ j < m) (x : Nat → Fin p) : tr1 m x j = 0 := if_neg h
theorem alt_tr {n m : Nat} {F : Vs p → Fin p} (h : Alt n (m + 1) F) : Alt n m (fun u => F (tr m u)) := by
  have cg : ∀ (x y : Nat → Fin p), (∀ j, j < m → x j = y j) → ∀ j, tr1 m x j = tr1 m y j := fun x y e j => by
    unfold tr1; split
    · exact e j (by assumption)
    · rfl
  refine ⟨fun v w e => h.congr _ _ fun i hi j _ => cg _ _ (e i hi) j, fun v i hi a x y => ?_, fun v i hi e => h.adj _ i hi fun j _ => cg _ _ e j⟩
  show F (tr m _) = a * F (tr m _) + F (tr m _)
  rw [tr_up, tr_up, tr_up, tr1_lin]
  exact h.lin _ i hi a _ _
theorem ins_up {n t : Nat} (ht : t < n) (v : Vs p) (e x : Nat → Fin p) : ins (up v t x) n e = up (ins v n e) t x := by
  funext i
  unfold ins up
  by_cases c1 : i < n
  · simp [c1]
  · by_cases c2 : i = n
    · subst c2; simp [show ¬ i = t by omega]
    · simp [c1, c2, show ¬ i - 1 = t by omega, show ¬ i = t by omega]
theorem alt_ins {n m : Nat} {F : Vs p → Fin p} (h : Alt (n + 1) (m + 1) F) (e : Nat → Fin p) : Alt n m (fun u => F (ins (tr m u) n e)) := by
  have at' : ∀ (u : Vs p) i, i < n → ins u n e i = u i := fun u i hi => if_pos hi
  have cg : ∀ (x y : Nat → Fin p), (∀ j, j < m → x j = y j) → ∀ j, tr1 m x j = tr1 m y j := fun x y e j => by
    unfold tr1; split
    · exact e j (by assumption)
    · rfl
  refine ⟨fun v w q => h.congr _ _ fun i hi j _ => ?_, fun v i hi a x y => ?_, fun v i hi q => h.adj _ i (by omega) fun j _ => ?_⟩
  · by_cases c : i < n
    · rw [at' _ i c, at' _ i c]; exact cg _ _ (q i c) j
    · have : i = n := by omega
      subst this
      unfold ins; simp
  · show F (ins (tr m _) n e) = a * F (ins (tr m _) n e) + F (ins (tr m _) n e)
    rw [tr_up, tr_up, tr_up, tr1_lin, ins_up hi, ins_up hi, ins_up hi]
    exact h.lin _ i (by omega) a _ _
  · rw [at' _ i (by omega), at' _ (i + 1) hi]; exact cg _ _ q j
theorem Sm_if (q : Nat → Prop) [DecidablePred q] (f : Nat → Fin p) : ∀ {g : Nat → Fin p} {n : Nat}, (∀ i, i < n → q i → f i = g i) → Sm n (fun i => if q i then f i else 0) = Sm n (fun i => if q i then g i else 0) := fun h => Sm_congr fun i hi => by
  by_cases c : q i
  · rw [if_pos c, if_pos c, h i hi c]
  · rw [if_neg c, if_neg c]
/-- What is linear in each of n vectors, and nought where neighbours are the same, is a sum of determinants. -/
theorem cb : ∀ (m n : Nat) (F : Vs p → Fin p), Alt n m F → ∀ v, F v = Sm (2 ^ m) (fun s => if cnt m s = n then D n (rs m s v) * F (un m s) else 0)
  | 0, n, F, h, v => by
    show _ = Sm 1 _
    simp only [Sm]
    by_cases c : n = 0
    · subst c
      rw [if_pos (show cnt 0 0 = 0 from rfl)]
      show F v = 0 + 1 * F _
      rw [h.congr v (un 0 0) fun i hi => by omega]
      exact cb1 _
    · rw [if_neg (by simp [cnt]; omega), h.zero v (i := 0) (by omega) fun j hj => by omega]
      exact cb2
  | m + 1, n, F, h, v => by
    have e2 : 2 ^ (m + 1) = 2 ^ m + 2 ^ m := by rw [Nat.pow_succ]; omega
    rw [e2, Sm_app]
    -- the places without the last
    have low : F (tr m v) = Sm (2 ^ m) (fun s => if cnt (m + 1) s = n then D n (rs (m + 1) s v) * F (un (m + 1) s) else 0) := by
      rw [cb m n _ (alt_tr h) v]
      refine Sm_congr fun s hs => ?_
      rw [cnt_lo hs]
      by_cases c : cnt m s = n
      · rw [if_pos c, if_pos c]
        unfold rs
        rw [elm_lo hs]
        congr 1
        refine h.congr _ _ fun i hi j hj => ?_
        unfold tr un
        rw [elm_lo hs]
        by_cases d : j < m
        · rw [tr1_lt d]
        · rw [tr1_ge d, if_neg]
          have := elm_lt (n := m) (s := s) (k := i) (by omega)
          omega
      · rw [if_neg c, if_neg c]
    cases n with
    | zero =>
      rw [h.congr v (tr m v) fun i hi => by omega, low]
      rw [Sm_zero (f := fun i => if cnt (m + 1) (2 ^ m + i) = 0 then _ else _) fun s hs => if_neg (by rw [cnt_hi hs]; omega)]
      exact cb3 _
    | succ n =>
      obtain ⟨e, he⟩ : ∃ e : Nat → Fin p, ∀ j, e j = if j = m then 1 else 0 := ⟨_, fun _ => rfl⟩
      have split : F v = F (tr m v) + Sm (n + 1) (fun i => v i m * F (up (tr m v) i e)) := by
        rw [← h.spread (tr m v) (fun i => v i m) e]
        refine h.congr _ _ fun i hi j hj => ?_
        show v i j = tr1 m (v i) j + v i m * e j
        rw [he]
        by_cases d : j < m
        · rw [tr1_lt d, if_neg (by omega)]; exact cb4 _ _
        · have : j = m := by omega
          subst this
          rw [tr1_ge d, if_pos rfl]; exact cb5 _
      rw [split, low]
      congr 1
      have one : ∀ i, i < n + 1 → v i m * F (up (tr m v) i e) = Sm (2 ^ m) (fun s => if cnt m s = n then sg (n - i) * v i m * D n (rs m s fun k => v (sk i k)) * F (ins (tr m (un m s)) n e) else 0) := fun i hi => by
        rw [← ins_sk (tr m v) i e, ins_end h _ e (n - i) i (by omega)]
        have := cb m n _ (alt_ins h e) (fun k => v (sk i k))
        have e3 : tr m (fun k => v (sk i k)) = fun k => tr m v (sk i k) := rfl
        simp only [e3] at this
        rw [this, ← Sm_mul, ← Sm_mul]
        refine Sm_congr fun s hs => ?_
        by_cases c : cnt m s = n
        · rw [if_pos c, if_pos c]; exact cb6 _ _ _ _
        · rw [if_neg c, if_neg c]; exact cb7 _ _
      rw [Sm_congr one, Sm_comm]
      refine Sm_congr fun s hs => ?_
      rw [cnt_hi hs]
      by_cases c : cnt m s = n
      · rw [if_pos (by omega), Sm_congr fun i _ => if_pos c, Sm_mulr]
        congr 1
        · show _ = Sm (n + 1) _
          refine Sm_congr fun i hi => ?_
          have l1 : rs (m + 1) (2 ^ m + s) v i n = v i m := by
            unfold rs; rw [elm_hi hs, ← c, elm_last]
          rw [l1]
          congr 1
          refine D_congr fun k hk j hj => ?_
          unfold rs
          rw [elm_hi hs, elm_snoc (by omega)]
        · refine h.congr _ _ fun i hi j hj => ?_
          unfold un
          rw [elm_hi hs]
          by_cases d : i < n
          · rw [elm_snoc (by omega)]
            show (if i < n then tr1 m _ else _ : Nat → Fin p) j = _
            rw [if_pos d]
            by_cases b : j < m
            · rw [tr1_lt b]
            · rw [tr1_ge b, if_neg]
              have := elm_lt (n := m) (s := s) (k := i) (by omega)
              omega
          · have : i = n := by omega
            subst this
            rw [← c, elm_last]
            show (if cnt m s < cnt m s then _ else if cnt m s = cnt m s then e else _ : Nat → Fin p) j = _
            rw [if_neg (Nat.lt_irrefl _), if_pos rfl, he]
      · rw [if_neg (by omega)]
        exact Sm_zero fun i _ => if_neg c
where
  cb1 (x : Fin p) : x = 0 + 1 * x := by grind
  cb2 : (0 : Fin p) = 0 + 0 := by grind
  cb3 (x : Fin p) : x = x + 0 := by grind
  cb4 (x y : Fin p) : x = x + y * 0 := by grind
  cb5 (x : Fin p) : x = 0 + x * 1 := by grind
  cb6 (a b c d : Fin p) : a * (b * (c * d)) = b * a * c * d := by grind
  cb7 (a b : Fin p) : a * (b * 0) = 0 := by grind
theorem D_one : ∀ n, D n (fun i j => if j = i then (1 : Fin p) else 0) = 1
  | 0 => rfl
  | n + 1 => by
    show Sm _ _ = _
    rw [Sm_one (k := n) (by omega) fun i hi hne => by
      show sg (n - i) * (if n = i then 1 else 0) * _ = 0
      rw [if_neg (by omega)]; exact do1 _ _]
    show sg (n - n) * (if n = n then 1 else 0) * D n (fun k j => if j = sk n k then 1 else 0) = 1
    rw [if_pos rfl, Nat.sub_self, sg_zero, D_congr (w := fun i j => if j = i then (1 : Fin p) else 0) fun i hi j hj => by
      show (if j = sk n i then (1 : Fin p) else 0) = _
      rw [show sk n i = i by unfold sk; rw [if_pos hi]], D_one n]
    exact da11 _
where
  do1 (a b : Fin p) : a * 0 * b = 0 := by grind
/-- Below the diagonal nought: the diagonal's product. -/
def Pd : Nat → (Nat → Fin p) → Fin p
  | 0, _ => 1
  | n + 1, f => Pd n f * f n
theorem D_ut : ∀ (n : Nat) (v : Vs p), (∀ i j, i < n → j < i → v i j = 0) → D n v = Pd n (fun i => v i i)
  | 0, _, _ => rfl
  | n + 1, v, h => by
    show Sm _ _ = _
    rw [Sm_one (k := n) (by omega) fun i hi hne => ?_]
    · rw [Nat.sub_self, sg_zero, D_congr (w := v) fun i hi j hj => by rw [show sk n i = i by unfold sk; rw [if_pos hi]], D_ut n v fun i j hi hj => h i j (by omega) hj]
      exact dt _ _
    · obtain ⟨q, rfl⟩ : ∃ q, n = q + 1 := ⟨n - 1, by omega⟩
      rw [(D_alt (q + 1)).zero (fun k => v (sk i k)) (i := q) (by omega) fun j hj => ?_]
      · exact da3 _
      · show v (sk i q) j = 0
        rw [show sk i q = q + 1 by unfold sk; rw [if_neg (by omega)]]
        exact h _ j (by omega) (by omega)
where
  dt (a b : Fin p) : 1 * a * b = b * a := by grind
/-- CAUCHY, BINET. -/
theorem cauchy (n m : Nat) (A B : Vs p) : D n (fun i j => Sm m (fun l => A i l * B l j)) = Sm (2 ^ m) (fun s => if cnt m s = n then D n (rs m s A) * D n (fun i => B ((elm m s).getD i 0)) else 0) := by
  have h : Alt n m (fun v : Vs p => D n (fun i j => Sm m (fun l => v i l * B l j))) := by
    refine ⟨fun v w e => D_congr fun i hi j hj => Sm_congr fun l hl => by rw [e i hi l hl], fun v i hi a x y => ?_, fun v i hi e => (D_alt n).adj _ i hi fun j _ => Sm_congr fun l hl => by rw [e l hl]⟩
    have pu : ∀ x : Nat → Fin p, (fun k j => Sm m (fun l => up v i x k l * B l j)) = up (fun k j => Sm m (fun l => v k l * B l j)) i (fun j => Sm m (fun l => x l * B l j)) := fun x => by
      funext k
      by_cases c : k = i
      · subst c; rw [up_at, up_at]
      · rw [up_ne _ _ c, up_ne _ _ c]
    show D n _ = a * D n _ + D n _
    rw [pu, pu, pu, ← (D_alt n).lin _ i hi]
    congr 2
    funext j
    rw [← Sm_mul, ← Sm_add]
    exact Sm_congr fun l _ => ch _ _ _ _
  rw [cb m n _ h A]
  refine Sm_congr fun s hs => ?_
  by_cases c : cnt m s = n
  · rw [if_pos c, if_pos c]
    congr 1
    refine D_congr fun i hi j hj => ?_
    rw [Sm_one (k := (elm m s).getD i 0) (elm_lt (by omega)) fun l hl hne => by unfold un; rw [if_neg hne]; exact da4 _]
    unfold un
    rw [if_pos rfl, Fin.one_mul]
  · rw [if_neg c, if_neg c]
where
  ch (a b c d : Fin p) : (a * b + c) * d = a * (b * d) + c * d := by grind
theorem dsum (f : Nat → Nat → Fin p) : ∀ N, (∀ i k, i ≤ k → k < N → f i k + f (k + 1) i = 0) → Sm (N + 1) (fun i => Sm N (f i)) = 0
  | 0, _ => Sm_zero fun i _ => rfl
  | N + 1, h => by
    have ih := dsum f N fun i k a b => h i k a (by omega)
    show Sm (N + 1) (fun i => Sm N (f i) + f i N) + Sm (N + 1) (f (N + 1)) = 0
    rw [Sm_add, ih, ds, ← Sm_add]
    exact Sm_zero fun i hi => h i N (by omega) (by omega)
where
  ds (a b : Fin p) : 0 + a + b = a + b := by grind
theorem sk_sk {i k : Nat} (h : i ≤ k) (x : Nat) : sk i (sk k x) = sk (k + 1) (sk i x) := by
  unfold sk
  by_cases c1 : x < k
  · rw [if_pos c1]
    by_cases c2 : x < i
    · rw [if_pos c2, if_pos (by omega)]
    · rw [if_neg c2, if_pos (by omega)]
  · have c2 : ¬ x < i := by omega
    simp only [if_neg c1, if_neg c2, if_neg (show ¬ x + 1 < i by omega), if_neg (show ¬ x + 1 < k + 1 by omega)]
theorem T_lin : ∀ (n : Nat) (v : Vs p) (t : Nat), t < n → ∀ (a : Fin p) (x y : Nat → Fin p), D n (fun i j => up v t (fun j => a * x j + y j) j i) = a * D n (fun i j => up v t x j i) + D n (fun i j => up v t y j i)
  | 0, v, t, h, a, x, y => by omega
  | n + 1, v, t, h, a, x, y => by
    show Sm _ _ = a * Sm _ _ + Sm _ _
    rw [← Sm_mul, ← Sm_add]
    refine Sm_congr fun i hi => ?_
    by_cases c : t = n
    · subst c
      have e : ∀ z : Nat → Fin p, D t (fun k j => up v t z j (sk i k)) = D t (fun k j => v j (sk i k)) := fun z => D_congr fun k hk j hj => by rw [up_ne _ _ (by omega)]
      show sg _ * up v t _ t i * D t (fun k j => up v t _ j (sk i k)) = a * (sg _ * up v t _ t i * D t (fun k j => up v t _ j (sk i k))) + sg _ * up v t _ t i * D t (fun k j => up v t _ j (sk i k))
      rw [e, e, e, up_at, up_at, up_at]
      exact da5 _ _ _ _ _
    · have e : ∀ z : Nat → Fin p, (fun k j => up v t z j (sk i k)) = fun k j => up (fun j k => v j (sk i k)) t (fun k => z (sk i k)) j k := fun z => by
        funext k j
        by_cases d : j = t
        · subst d; rw [up_at, up_at]
        · rw [up_ne _ _ d, up_ne _ _ d]
      show sg _ * up v t _ n i * D n (fun k j => up v t _ j (sk i k)) = a * (sg _ * up v t _ n i * D n (fun k j => up v t _ j (sk i k))) + sg _ * up v t _ n i * D n (fun k j => up v t _ j (sk i k))
      rw [e, e, e, T_lin n _ t (by omega), up_ne _ _ (Ne.symm c), up_ne _ _ (Ne.symm c), up_ne _ _ (Ne.symm c)]
      exact da6 _ _ _ _ _
theorem T_adj : ∀ (n : Nat) (v : Vs p) (t : Nat), t + 1 < n → (∀ j, j < n → v t j = v (t + 1) j) → D n (fun i j => v j i) = 0
  | 0, v, t, h, e => by omega
  | n + 1, v, t, h, e => by
    by_cases c : t + 1 = n
    · subst c
      show Sm (t + 1 + 1) (fun i => sg (t + 1 - i) * v (t + 1) i * Sm (t + 1) (fun k => sg (t - k) * v t (sk i k) * D t (fun k' j => v j (sk i (sk k k'))))) = 0
      rw [Sm_congr fun i _ => (Sm_mul _ _ _).symm]
      refine dsum (fun i k => sg (t + 1 - i) * v (t + 1) i * (sg (t - k) * v t (sk i k) * D t (fun k' j => v j (sk i (sk k k'))))) (t + 1) fun i k hik hk => ?_
      have e1 : sk i k = k + 1 := by unfold sk; rw [if_neg (by omega)]
      have e2 : sk (k + 1) i = i := by unfold sk; rw [if_pos (by omega)]
      have e3 : (fun (k' j : Nat) => v j (sk i (sk k k'))) = fun k' j => v j (sk (k + 1) (sk i k')) := by funext k' j; rw [sk_sk hik]
      rw [e1, e2, e3, e (k + 1) (by omega), ← e i (by omega), show t + 1 - (k + 1) = t - k by omega, show t + 1 - i = (t - i) + 1 by omega, sg_succ]
      exact ta _ _ _ _ _
    · show Sm _ _ = _
      refine Sm_zero fun i hi => ?_
      rw [T_adj n (fun j k => v j (sk i k)) t (by omega) fun j hj => e (sk i j) (sk_lt hj)]
      exact da3 _
where
  ta (s u a b d : Fin p) : - s * a * (u * b * d) + u * b * (s * a * d) = 0 := by grind
/-- Turned over the same. -/
theorem D_turn (n : Nat) (v : Vs p) : D n (fun i j => v j i) = D n v := by
  have h : Alt n n (fun v : Vs p => D n (fun i j => v j i)) := ⟨fun v w e => D_congr fun i hi j hj => e j hj i hi, T_lin n, T_adj n⟩
  have hfull := full_lt n
  have hc : cnt n (2 ^ n - 1) = n := by
    have := cpl_cnt (m := n) (s := 0)
    rw [cpl, dif_zero, cnt_zero] at this; omega
  have hel : ∀ k, k < n → (elm n (2 ^ n - 1)).getD k 0 = k := fun k hk => by
    have e : elm n (2 ^ n - 1) = List.range n := by
      unfold elm
      exact List.filter_eq_self.2 fun i hi => by rw [full_bit]; simpa using hi
    rw [e, List.getD_eq_getElem?_getD, List.getElem?_range hk]; rfl
  rw [cb n n _ h v, Sm_one (k := 2 ^ n - 1) hfull fun s hs hne => if_neg fun e => hne ?_]
  · rw [if_pos hc, D_congr (v := rs n (2 ^ n - 1) v) (w := v) fun i hi j hj => by unfold rs; rw [hel j hj],
      D_congr (v := fun i j => un n (2 ^ n - 1) j i) (w := fun i j => if j = i then (1 : Fin p) else 0) fun i hi j hj => by
        show un n (2 ^ n - 1) j i = _
        unfold un; rw [hel j hj]
        by_cases c : i = j
        · rw [if_pos c, if_pos c.symm]
        · rw [if_neg c, if_neg (Ne.symm c)], D_one]
    exact da13 _
  · exact set_ext hs hfull fun i hi => by rw [cnt_full e i hi, full_bit]; simpa using hi
where
  da13 (a : Fin p) : a * 1 = a := by grind
end
end Go.SH
