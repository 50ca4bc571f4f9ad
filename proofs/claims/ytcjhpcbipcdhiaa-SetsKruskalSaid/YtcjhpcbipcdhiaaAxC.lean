/-
  The operations that touch no memory, run on abstract values: what they yield and what they ask; and that the model's run is this. Conditions: the table of types is the program's.
-/
import Derived.Test.YtcjhpcbipcdhiaaAxB
set_option linter.unusedSimpArgs false
set_option linter.unusedVariables false
namespace Go.AX
open Go Go.RowKit

inductive TyD where
  | other
  | int (k : IntKind)
  | bool
  | str
  | slice (e : TypeId)
  | struct (fs : List (Nat × TypeId))
  | fn
structure TyRow where
  d : TyD
  sz : Nat
  by_ : Nat
  zero : Value
abbrev Tab := TypeId → TyRow
def TyRow.none : TyRow := ⟨.other, 0, 0, .tuple #[]⟩

def InfoOk (P : Program) (t : TypeId) (r : TyRow) : Prop := ∃ i, P.info? t = some i ∧ i.size = r.sz ∧ i.bytes = r.by_ ∧ i.zero = some r.zero
def RowOk (P : Program) (t : TypeId) (r : TyRow) : Prop :=
  match r.d with
  | .other => True
  | .int k => P.underlying t = some (.int k) ∧ InfoOk P t r ∧ r.sz = 1
  | .bool => P.underlying t = some .bool ∧ InfoOk P t r ∧ r.sz = 1
  | .str => P.underlying t = some .string ∧ InfoOk P t r ∧ r.sz = 1
  | .slice e => P.underlying t = some (.slice e) ∧ InfoOk P t r ∧ r.sz = 1
  | .struct fs => (∃ fields, P.underlying t = some (.struct fields) ∧ fields.toList.map (fun f => (f.offset, f.type)) = fs) ∧ InfoOk P t r
  | .fn => (∃ d, P.underlying t = some d ∧ ∀ w, (isAgg t).run P w = .ok false w) ∧ InfoOk P t r ∧ r.sz = 1
def TabOk (P : Program) (T : Tab) : Prop := ∀ t, RowOk P t (T t)

def isAggT (r : TyRow) : Bool := match r.d with | .struct _ => true | _ => false
def known (r : TyRow) : Bool := match r.d with | .other => false | _ => true

theorem run_underlying' {P : Program} {t : TypeId} {d : TypeDesc} (h : P.underlying t = some d) (w : World) : (underlying t).run P w = .ok d w := run_underlying h w

theorem known_run {P : Program} {T : Tab} (hT : TabOk P T) {t : TypeId} (hk : known (T t) = true) : InfoOk P t (T t) ∧ ∀ w, (isAgg t).run P w = .ok (isAggT (T t)) w := by
  have h := hT t
  unfold RowOk at h
  unfold known at hk
  unfold isAggT
  split at h
  · rename_i hd; rw [hd] at hk; cases hk
  · rename_i k hd; exact ⟨h.2.1, fun w => by simp [isAgg, run_underlying h.1, hd]⟩
  · rename_i hd; exact ⟨h.2.1, fun w => by simp [isAgg, run_underlying h.1, hd]⟩
  · rename_i hd; exact ⟨h.2.1, fun w => by simp [isAgg, run_underlying h.1, hd]⟩
  · rename_i e hd; exact ⟨h.2.1, fun w => by simp [isAgg, run_underlying h.1, hd]⟩
  · rename_i fs hd; obtain ⟨⟨f, hf, _⟩, hi⟩ := h; exact ⟨hi, fun w => by simp [isAgg, run_underlying hf, hd]⟩
  · rename_i hd; obtain ⟨⟨_, _, h1⟩, h2, _⟩ := h; exact ⟨h2, fun w => by rw [hd]; exact h1 w⟩
theorem size_run {P : Program} {T : Tab} (hT : TabOk P T) {t : TypeId} (hk : known (T t) = true) (w : World) : (sizeOf t).run P w = .ok (T t).sz w := by
  obtain ⟨⟨i, hi, hs, _, _⟩, _⟩ := known_run hT hk
  simp [sizeOf, typeInfo, hi, hs]
theorem zero_run {P : Program} {T : Tab} (hT : TabOk P T) {t : TypeId} (hk : known (T t) = true) (w : World) : (zeroValue t).run P w = .ok (T t).zero w := by
  obtain ⟨⟨i, hi, _, _, hz⟩, _⟩ := known_run hT hk
  simp [zeroValue, typeInfo, hi, hz]
theorem slice_under {P : Program} {T : Tab} (hT : TabOk P T) {t e : TypeId} (h : (T t).d = .slice e) : P.underlying t = some (.slice e) := by
  have := hT t; unfold RowOk at this; rw [h] at this; exact this.1
theorem int_under {P : Program} {T : Tab} (hT : TabOk P T) {t : TypeId} {k : IntKind} (h : (T t).d = .int k) : P.underlying t = some (.int k) := by
  have := hT t; unfold RowOk at this; rw [h] at this; exact this.1
theorem str_under {P : Program} {T : Tab} (hT : TabOk P T) {t : TypeId} (h : (T t).d = .str) : P.underlying t = some .string := by
  have := hT t; unfold RowOk at this; rw [h] at this; exact this.1
theorem bool_under {P : Program} {T : Tab} (hT : TabOk P T) {t : TypeId} (h : (T t).d = .bool) : P.underlying t = some .bool := by
  have := hT t; unfold RowOk at this; rw [h] at this; exact this.1
theorem struct_under {P : Program} {T : Tab} (hT : TabOk P T) {t : TypeId} {fs : List (Nat × TypeId)} (h : (T t).d = .struct fs) : ∃ fields, P.underlying t = some (.struct fields) ∧ fields.toList.map (fun f => (f.offset, f.type)) = fs := by
  have := hT t; unfold RowOk at this; rw [h] at this; exact this.1

/-! ### what is under a guard -/
def sv : AVal → AVal | .opt _ v => v | x => x
def sc (pc : Bool) : AVal → Bool | .opt b _ => !pc || b | _ => true

theorem sv_rep {F : Fz} {φ : Phi} {x : AVal} {v : Value} (h : RepV F φ x v) (hs : sc true x = true) : RepV F φ (sv x) v := by
  cases h with
  | opt b x v h _ => exact h (by simpa [sc] using hs)
  | _ => (simp only [sv]; constructor <;> assumption)

/-! ### numbers -/
def shlOk (k : IntKind) (a b : Int) : Bool := decide (0 ≤ b) && inb k (a * 2 ^ b.toNat) && decide (b.toNat ≤ k.bits)
def bin2 (op : BinOp) : AVal → AVal → Bool × AVal
  | .int k a, .int k' b =>
    match op with
    | .add => (decide (k = k') && inb k (a + b), .int k (a + b))
    | .sub => (decide (k = k') && inb k (a - b), .int k (a - b))
    | .mul => (decide (k = k') && inb k (a * b), .int k (a * b))
    | .quo => (decide (k = k') && decide (b ≠ 0) && inb k (a.tdiv b), .int k (a.tdiv b))
    | .rem => (decide (k = k') && decide (b ≠ 0), .int k (a.tmod b))
    | .and => (decide (k = k'), .int k (iand a b))
    | .or => (decide (k = k'), .int k (ior a b))
    | .xor => (decide (k = k'), .int k (ixor a b))
    | .andNot => (decide (k = k'), .int k (iandnot a b))
    | .shl => (shlOk k a b, .int k (a * 2 ^ b.toNat))
    | .shr => (decide (0 ≤ b), .int k (a / 2 ^ b.toNat))
    | .eql => (decide (k = k'), .bool (decide (a = b)))
    | .neq => (decide (k = k'), .bool (!decide (a = b)))
    | .lss => (decide (k = k'), .bool (decide (a < b)))
    | .leq => (decide (k = k'), .bool (decide (a ≤ b)))
    | .gtr => (decide (k = k'), .bool (decide (b < a)))
    | .geq => (decide (k = k'), .bool (decide (b ≤ a)))
  | _, _ => (false, .junk)

theorem tdiv_fdiv (a : Int) (n : Nat) : a.fdiv (2 ^ n) = a / 2 ^ n := Int.fdiv_eq_ediv_of_nonneg _ (Int.le_of_lt (Int.pow_pos (by omega)))

theorem shr_min {k : IntKind} {a : Int} (h1 : lo k ≤ a) (h2 : a ≤ hi k) (n : Nat) : a / 2 ^ (min n k.bits) = a / 2 ^ n := by
  by_cases h : n ≤ k.bits
  · rw [Nat.min_eq_left h]
  · have hb : k.bits ≤ n := by omega
    rw [Nat.min_eq_right hb]
    have hp : (2 : Int) ^ k.bits ≤ 2 ^ n := by exact_mod_cast Nat.pow_le_pow_right (show 0 < 2 by omega) hb
    have hr : -(2 ^ k.bits : Int) ≤ a ∧ a < 2 ^ k.bits := by cases k <;> simp [lo, hi, IntKind.bits] at * <;> omega
    rcases Int.lt_or_le a 0 with h0 | h0
    · have e1 : ∀ m : Int, 0 < m → -m ≤ a → a / m = -1 := fun m hm hl => by
        have := Int.ediv_lt_of_lt_mul hm (show a < 0 * m by omega)
        have := Int.le_ediv_of_mul_le hm (show -1 * m ≤ a by omega)
        omega
      rw [e1 _ (Int.pow_pos (by omega)) hr.1, e1 _ (Int.pow_pos (by omega)) (by omega)]
    · rw [Int.ediv_eq_zero_of_lt h0 hr.2, Int.ediv_eq_zero_of_lt h0 (by omega)]

theorem ediv_in {k : IntKind} {a : Int} (h1 : lo k ≤ a) (h2 : a ≤ hi k) (n : Nat) : lo k ≤ a / 2 ^ n ∧ a / 2 ^ n ≤ hi k := by
  have hp : (0 : Int) < 2 ^ n := Int.pow_pos (by omega)
  have hp1 : (1 : Int) ≤ 2 ^ n := hp
  have hlo : lo k ≤ 0 := by cases k <;> simp [lo]
  have hhi : 0 ≤ hi k := by cases k <;> simp [hi]
  rcases Int.lt_or_le a 0 with h0 | h0
  · refine ⟨Int.le_trans h1 (Int.le_ediv_of_mul_le hp ?_), ?_⟩
    · have := Int.mul_le_mul_of_nonpos_left (show a ≤ 0 by omega) hp1; simpa using this
    · have := Int.ediv_lt_of_lt_mul hp (show a < 0 * 2 ^ n by omega); omega
  · exact ⟨Int.le_trans hlo (Int.ediv_nonneg h0 (Int.le_of_lt hp)), Int.le_trans (Int.ediv_le_self _ h0) h2⟩

theorem emod_le' {m : Int} (hm : 0 ≤ m) (b : Int) : m % b ≤ m := by
  obtain ⟨M, rfl⟩ := Int.eq_ofNat_of_zero_le hm
  have : ∀ c : Nat, (M : Int) % (c : Int) ≤ M := fun c => by rw [← Int.natCast_emod]; have := Nat.mod_le M c; omega
  rcases Int.natAbs_eq b with h | h
  · rw [h]; exact this _
  · rw [h, Int.emod_neg]; exact this _

theorem tmod_in {k : IntKind} {a b : Int} (h1 : lo k ≤ a) (h2 : a ≤ hi k) : lo k ≤ a.tmod b ∧ a.tmod b ≤ hi k := by
  have hlo : lo k ≤ 0 := by cases k <;> simp [lo]
  have hhi : 0 ≤ hi k := by cases k <;> simp [hi]
  rcases Int.lt_or_le a 0 with h0 | h0
  · obtain ⟨m, hm⟩ : ∃ m, a = -m ∧ 0 ≤ m := ⟨-a, by omega, by omega⟩
    obtain ⟨rfl, hm⟩ := hm
    rw [Int.neg_tmod]
    have := Int.tmod_nonneg b hm
    have : m.tmod b ≤ m := by
      rw [Int.tmod_eq_emod_of_nonneg hm]; exact emod_le' hm b
    omega
  · have := Int.tmod_nonneg b h0
    have : a.tmod b ≤ a := by rw [Int.tmod_eq_emod_of_nonneg h0]; exact emod_le' h0 b
    omega

end Go.AX
