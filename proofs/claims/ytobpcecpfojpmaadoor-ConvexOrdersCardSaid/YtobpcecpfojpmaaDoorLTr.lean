/-
  Trees: vertices that hang together; what is left of a tree when its ends go first. Conditions: none.
-/
import Derived.Test.YtobpcecpfojpmaaDoorLAn
import Derived.Test.YtobpcecpfojpmaaDoorLRj
import Derived.Test.YtobpcecpfojpmaaDoorSpkinds
set_option linter.unusedSimpArgs false
set_option linter.unusedVariables false
namespace Go.SH
open Go Go.AX

/-- A graph as the program takes it. -/
structure GraT (N : Nat) (E : List (Int × Int)) : Prop where
  n1 : 1 ≤ N
  n7 : N ≤ 7
  e8 : E.length ≤ 8
  ends : ∀ k, k < E.length → 0 ≤ (E.getD k (0, 0)).1 ∧ 0 ≤ (E.getD k (0, 0)).2 ∧ (E.getD k (0, 0)).1 < N ∧ (E.getD k (0, 0)).2 < N
theorem CheckGraphT_spec (n : Int) (E : List (Int × Int)) : Gets (kinds_CheckGraph n E) (fun r => r = 0 → ∃ N : Nat, n = N ∧ GraT N E) := by
  unfold kinds_CheckGraph
  refine gIte (fun _ => gSome (by simp)) fun h => ?_
  obtain ⟨N, rfl⟩ := Int.eq_ofNat_of_zero_le (show 0 ≤ n by omega)
  refine gBind (R := fun z => match z with | .inl _ => ∀ k, k < E.length → 0 ≤ (E.getD k (0, 0)).1 ∧ 0 ≤ (E.getD k (0, 0)).2 ∧ (E.getD k (0, 0)).1 < N ∧ (E.getD k (0, 0)).2 < N | .inr r => r ≠ 0)
    (gFor E.length (fun k v => v = (k : Int) ∧ ∀ j, j < k → 0 ≤ (E.getD j (0, 0)).1 ∧ 0 ≤ (E.getD j (0, 0)).2 ∧ (E.getD j (0, 0)).1 < N ∧ (E.getD j (0, 0)).2 < N) (Nat.zero_le _) ⟨rfl, none_all⟩ ?_) ?_
  · rintro k _ hk ⟨rfl, hb⟩
    simp only [toNat_nat]
    refine gIte (fun h1 => gChk (by omega) (gIte (fun _ => gSome (show (1 : Int) ≠ 0 by omega)) fun h2 => gSome ⟨by omega, by simp, step_all hb (by omega)⟩)) fun h1 => gSome fun j hj => hb j (by omega)
  · rintro (u | rr) hz
    · exact gSome fun _ => ⟨N, rfl, by omega, by omega, by omega, hz⟩
    · exact gSome fun e => absurd e hz

/-- An edge's ends. -/
def eA (E : List (Int × Int)) (k : Nat) : Nat := (E.getD k (0, 0)).1.toNat
def eB (E : List (Int × Int)) (k : Nat) : Nat := (E.getD k (0, 0)).2.toNat
/-- They hang together, by edges between them. -/
def Conn (E : List (Int × Int)) (s : Nat) : Prop := ∀ T, Inc T s → T ≠ 0 → (∀ k, k < E.length → s.testBit (eA E k) = true → s.testBit (eB E k) = true → (T.testBit (eA E k) = true ↔ T.testBit (eB E k) = true)) → T = s
theorem inc_eq_cntT {m a b : Nat} (hb : b < 2 ^ m) (h : Inc a b) (hc : cnt m b ≤ cnt m a) : a = b :=
  set_ext (h.lt hb) hb fun i hi => (cnt_eq_of_sub (fun i _ hi => h i hi) hc i hi).symm
section
variable {N : Nat} {E : List (Int × Int)}
/-- How many edges lie within. -/
def ec (E : List (Int × Int)) (S : Nat) : Int := sumN E.length fun k => if S.testBit (eA E k) = true ∧ S.testBit (eB E k) = true then 1 else 0
theorem conn_zero : Conn E 0 := fun T h h0 _ => by
  obtain ⟨i, hi⟩ := exists_bit h0
  have := h i hi
  simp at this
theorem conn_one (i : Nat) : Conn E (2 ^ i) := fun T h h0 _ => by
  obtain ⟨j, hj⟩ := exists_bit h0
  have := h j hj
  rw [testBit_pow, decide_eq_true_eq] at this
  subst this
  exact h.antisymm (inc_pow hj)
/-- An edge that leaves. -/
theorem Conn.leaves {S T : Nat} (h : Conn E S) (hT : Inc T S) (h0 : T ≠ 0) (hne : T ≠ S) : ∃ k v, k < E.length ∧ S.testBit v = true ∧ T.testBit v = false ∧ ((T.testBit (eA E k) = true ∧ eB E k = v) ∨ (T.testBit (eB E k) = true ∧ eA E k = v)) := by
  rcases Classical.em (∃ k, k < E.length ∧ S.testBit (eA E k) = true ∧ S.testBit (eB E k) = true ∧ ¬ (T.testBit (eA E k) = true ↔ T.testBit (eB E k) = true)) with ⟨k, k1, k2, k3, k4⟩ | c
  · rcases Classical.em (T.testBit (eA E k) = true) with a | a
    · refine ⟨k, eB E k, k1, k3, ?_, .inl ⟨a, rfl⟩⟩
      cases q : T.testBit (eB E k) with
      | false => rfl
      | true => exact absurd ⟨fun _ => q, fun _ => a⟩ k4
    · refine ⟨k, eA E k, k1, k2, bool_ne a, .inr ⟨?_, rfl⟩⟩
      rcases Classical.em (T.testBit (eB E k) = true) with b | b
      · exact b
      · exact absurd ⟨fun q => absurd q a, fun q => absurd q b⟩ k4
  · refine absurd (h T hT h0 fun k k1 k2 k3 => ?_) hne
    rcases Classical.em (T.testBit (eA E k) = true ↔ T.testBit (eB E k) = true) with d | d
    · exact d
    · exact absurd ⟨k, k1, k2, k3, d⟩ c
theorem ec_more {T v k : Nat} (hk : k < E.length) (hv : T.testBit v = false) (h : (T.testBit (eA E k) = true ∧ eB E k = v) ∨ (T.testBit (eB E k) = true ∧ eA E k = v)) : ec E T + 1 ≤ ec E (T ||| 2 ^ v) := by
  have e : sumN E.length (fun i => (if T.testBit (eA E i) = true ∧ T.testBit (eB E i) = true then (1 : Int) else 0) + if i = k then 1 else 0) = ec E T + 1 := by
    rw [sumN_add, sumN_single _ _ _ hk]; rfl
  rw [← e]
  refine sumN_le fun i hi => ?_
  have up : ∀ x, T.testBit x = true → (T ||| 2 ^ v).testBit x = true := fun x hx => by rw [Nat.testBit_or, hx]; rfl
  have uv : (T ||| 2 ^ v).testBit v = true := by rw [Nat.testBit_or, testBit_pow]; simp
  by_cases c : i = k
  · subst c
    rw [if_pos rfl]
    rcases h with ⟨h1, h2⟩ | ⟨h1, h2⟩
    · rw [if_neg (fun q => by rw [h2, hv] at q; exact absurd q.2 (by simp)), if_pos ⟨up _ h1, by rw [h2]; exact uv⟩]; omega
    · rw [if_neg (fun q => by rw [h2, hv] at q; exact absurd q.1 (by simp)), if_pos ⟨by rw [h2]; exact uv, up _ h1⟩]; omega
  · rw [if_neg c]
    by_cases d : T.testBit (eA E i) = true ∧ T.testBit (eB E i) = true
    · rw [if_pos d, if_pos ⟨up _ d.1, up _ d.2⟩]; omega
    · rw [if_neg d]; split <;> omega
theorem Conn.grow {S : Nat} (hS : S < 2 ^ N) (h : Conn E S) : ∀ (k T : Nat), cnt N S ≤ cnt N T + k → Inc T S → T ≠ 0 → ec E T + ((cnt N S : Nat) : Int) ≤ ec E S + ((cnt N T : Nat) : Int)
  | 0, T, hc, hT, h0 => by rw [inc_eq_cntT hS hT hc]; exact Int.le_refl _
  | k + 1, T, hc, hT, h0 => by
    rcases Classical.em (T = S) with c | c
    · rw [c]; exact Int.le_refl _
    · obtain ⟨e, v, e1, v1, v2, e2⟩ := h.leaves hT h0 c
      have hv := bit_lt hS v1
      have h1 := ec_more e1 v2 e2
      have h2 := cnt_add hv v2
      have := Conn.grow hS h k (T ||| 2 ^ v) (by omega) (inc_or hT (inc_pow v1)) (fun q => by
        have : (T ||| 2 ^ v).testBit v = true := by rw [Nat.testBit_or, testBit_pow]; simp
        rw [q] at this; simp at this)
      omega
theorem ec_nonneg (S : Nat) : 0 ≤ ec E S := by
  have := sumN_le (n := E.length) (g := fun _ => 0) (h := fun k => if S.testBit (eA E k) = true ∧ S.testBit (eB E k) = true then (1 : Int) else 0) fun i _ => by split <;> omega
  rwa [sumN_zero] at this
theorem Conn.ge {S : Nat} (hS : S < 2 ^ N) (h : Conn E S) : ((cnt N S : Nat) : Int) ≤ ec E S + 1 := by
  rcases Classical.em (S = 0) with c | c
  · rw [c, cnt_zero]; have := ec_nonneg (E := E) 0; omega
  · obtain ⟨i, hi⟩ := exists_bit c
    have h1 := h.grow hS (cnt N S) (2 ^ i) (by omega) (inc_pow hi) (by have : 0 < 2 ^ i := Nat.pow_pos (by omega); omega)
    have h2 : cnt N (2 ^ i) = 1 := by
      have := cnt_add (m := N) (s := 0) (bit_lt hS hi) (by simp)
      rwa [Nat.zero_or, cnt_zero] at this
    have := ec_nonneg (E := E) (2 ^ i)
    omega
theorem GraT.eAB (h : GraT N E) {k : Nat} (hk : k < E.length) : eA E k < N ∧ eB E k < N := by
  have := h.ends k hk
  unfold eA eB
  omega
/-- All hang together, by one edge less than there are vertices. -/
structure IsTree (N : Nat) (E : List (Int × Int)) : Prop extends GraT N E where
  few : E.length + 1 = N
  all : Conn E (2 ^ N - 1)
variable (h : IsTree N E)
include h
theorem IsTree.le {S : Nat} (hS : S < 2 ^ N) (h0 : S ≠ 0) : ec E S + 1 ≤ ((cnt N S : Nat) : Int) := by
  have hf : ec E (2 ^ N - 1) = (E.length : Int) := by
    have one : ∀ k : Nat, sumN k (fun _ => (1 : Int)) = k := fun k => by
      induction k with
      | zero => rfl
      | succ k ih => simp only [sumN, ih]; omega
    unfold ec
    rw [sumN_congr (h := fun _ => 1) fun k hk => by
      obtain ⟨a, b⟩ := h.toGraT.eAB hk
      rw [full_bit, full_bit, decide_eq_true a, decide_eq_true b]; rfl, one]
  have hc : cnt N (2 ^ N - 1) = N := by
    have := cpl_cnt (m := N) (s := 0)
    rw [cnt_zero] at this
    have e : cpl N 0 = 2 ^ N - 1 := by
      refine set_ext (cpl_lt _ _) (full_lt N) fun i hi => ?_
      rw [cpl_bit, full_bit]; simp
    rw [e] at this; omega
  have := h.all.grow (full_lt N) N S (by rw [hc]; omega) (fun i hi => by rw [full_bit, decide_eq_true_eq]; exact bit_lt hS hi) h0
  have := h.few
  omega
theorem IsTree.conn {S : Nat} (hS : S < 2 ^ N) (hc : ((cnt N S : Nat) : Int) ≤ ec E S + 1) : Conn E S := by
  intro T hT h0 hcl
  rcases Classical.em (T = S) with c | c
  · exact c
  · exfalso
    have hTl := hT.lt hS
    have hR0 : dif S T ≠ 0 := fun e => c (hT.antisymm ((sub_iff_dif S T).1 e))
    have h1 := h.le hTl h0
    have h2 := h.le (dif_lt (b := T) hS) hR0
    have h3 := cnt_split N S T
    rw [show S &&& T = T from by rw [Nat.and_comm]; exact (sub_iff_and T S).2 hT] at h3
    have h4 : ec E S ≤ ec E T + ec E (dif S T) := by
      unfold ec
      rw [← sumN_add]
      refine sumN_le fun k hk => ?_
      by_cases d : S.testBit (eA E k) = true ∧ S.testBit (eB E k) = true
      · have hh := hcl k hk d.1 d.2
        rw [if_pos d]
        by_cases a : T.testBit (eA E k) = true
        · rw [if_pos ⟨a, hh.1 a⟩]; split <;> omega
        · have b : ¬ T.testBit (eB E k) = true := fun q => a (hh.2 q)
          rw [if_neg (fun q => a q.1), if_pos ⟨by rw [testBit_dif, d.1, bool_ne a]; rfl, by rw [testBit_dif, d.2, bool_ne b]; rfl⟩]; omega
      · rw [if_neg d]; split <;> split <;> omega
    omega
theorem IsTree.inter {S T : Nat} (hS : S < 2 ^ N) (hT : T < 2 ^ N) (cS : Conn E S) (cT : Conn E T) : Conn E (S &&& T) := by
  rcases Classical.em (S &&& T = 0) with c | c
  · rw [c]; exact conn_zero
  · refine h.conn (and_lt hS) ?_
    have h1 := cS.ge hS
    have h2 := cT.ge hT
    have h3 := h.le (or_lt hS hT) (fun e => c (by
      have : S = 0 := Nat.eq_of_testBit_eq fun i => by
        cases q : S.testBit i with
        | false => simp
        | true =>
          have : (S ||| T).testBit i = true := by rw [Nat.testBit_or, q]; rfl
          rw [e] at this; simp at this
      rw [this, Nat.zero_and]))
    have h4 := cnt_or_and N S T
    have h5 : ec E S + ec E T ≤ ec E (S ||| T) + ec E (S &&& T) := by
      unfold ec
      rw [← sumN_add, ← sumN_add]
      refine sumN_le fun k hk => ?_
      simp only [Nat.testBit_or, Nat.testBit_and]
      cases S.testBit (eA E k) <;> cases S.testBit (eB E k) <;> cases T.testBit (eA E k) <;> cases T.testBit (eB E k) <;> simp
    omega
/-- Ends go first. -/
theorem IsTree.anti {L : List Nat} (hL : Fam N L) (hm : ∀ s, s ∈ L ↔ s < 2 ^ N ∧ Conn E (cpl N s)) : Anti N L := by
  have hp2 : 0 < 2 ^ N := Nat.pow_pos (by omega)
  have c0 : cpl N 0 = 2 ^ N - 1 := set_ext (cpl_lt _ _) (full_lt N) fun i hi => by rw [cpl_bit, full_bit]; simp
  have cf : cpl N (2 ^ N - 1) = 0 := set_ext (cpl_lt _ _) hp2 fun i hi => by rw [cpl_bit, full_bit]; simp [hi]
  refine ⟨hL, (hm 0).2 ⟨hp2, by rw [c0]; exact h.all⟩, (hm _).2 ⟨full_lt N, by rw [cf]; exact conn_zero⟩, fun s hs h0 => ?_, fun s hs t ht => ?_⟩
  · obtain ⟨s1, s2⟩ := (hm s).1 hs
    have key : ∀ v, s.testBit v = true → cpl N (dif s (2 ^ v)) = cpl N s ||| 2 ^ v := fun v hv => by
      have hvN := bit_lt s1 hv
      refine set_ext (cpl_lt _ _) (or_lt (cpl_lt _ _) (pow_lt hvN)) fun i hi => ?_
      rw [cpl_bit, testBit_dif, Nat.testBit_or, cpl_bit, testBit_pow]
      by_cases c : v = i
      · subst c; simp [hi, hv]
      · simp [hi, c]
    rcases Classical.em (cpl N s = 0) with c | c
    · obtain ⟨i, hi⟩ := exists_bit h0
      refine ⟨i, hi, (hm _).2 ⟨dif_lt s1, ?_⟩⟩
      rw [key i hi, c, Nat.zero_or]
      exact conn_one i
    · have hne : cpl N s ≠ 2 ^ N - 1 := fun e => by
        obtain ⟨i, hi⟩ := exists_bit h0
        have : (cpl N s).testBit i = true := by rw [e, full_bit, decide_eq_true_eq]; exact bit_lt s1 hi
        rw [cpl_bit, hi] at this; simp at this
      obtain ⟨k, v, k1, v1, v2, k2⟩ := h.all.leaves (fun i hi => by rw [full_bit, decide_eq_true_eq]; exact bit_lt (cpl_lt N s) hi) c hne
      have hvN := bit_lt (full_lt N) v1
      have hv : s.testBit v = true := by
        rw [cpl_bit, decide_eq_true hvN, Bool.true_and, Bool.not_eq_false'] at v2; exact v2
      refine ⟨v, hv, (hm _).2 ⟨dif_lt s1, ?_⟩⟩
      rw [key v hv]
      refine h.conn (or_lt (cpl_lt _ _) (pow_lt hvN)) ?_
      have h1 := ec_more k1 v2 k2
      have h2 := s2.ge (cpl_lt N s)
      have h3 := cnt_add hvN v2
      omega
  · obtain ⟨s1, s2⟩ := (hm s).1 hs
    obtain ⟨t1, t2⟩ := (hm t).1 ht
    refine (hm _).2 ⟨or_lt s1 t1, ?_⟩
    have e : cpl N (s ||| t) = cpl N s &&& cpl N t := set_ext (cpl_lt _ _) (and_lt (cpl_lt _ _)) fun i hi => by
      rw [cpl_bit, Nat.testBit_or, Nat.testBit_and, cpl_bit, cpl_bit]
      simp [hi]
    rw [e]
    exact h.inter (cpl_lt _ _) (cpl_lt _ _) s2 t2
end
end Go.SH
