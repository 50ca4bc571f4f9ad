/-
  Numbers: two's complement on Int without a width, and that the model's operations on integers are these. Conditions: the numbers fit their kind.
-/
import Derived.WalkKit
set_option linter.unusedSimpArgs false
set_option linter.unusedVariables false
namespace Go.AX
open Go

def lo : IntKind → Int
  | .i8 => -128 | .i16 => -32768 | .i32 => -2147483648 | .i64 => -9223372036854775808 | _ => 0
def hi : IntKind → Int
  | .i8 => 127 | .i16 => 32767 | .i32 => 2147483647 | .i64 => 9223372036854775807
  | .u8 => 255 | .u16 => 65535 | .u32 => 4294967295 | .u64 => 18446744073709551615
def inb (k : IntKind) (n : Int) : Bool := decide (lo k ≤ n) && decide (n ≤ hi k)

theorem inb_iff {k : IntKind} {n : Int} : inb k n = true ↔ lo k ≤ n ∧ n ≤ hi k := by simp [inb]

theorem wrap_in {k : IntKind} {n : Int} (h1 : lo k ≤ n) (h2 : n ≤ hi k) : k.wrap n = n := by
  cases k <;> simp only [lo, hi] at h1 h2 <;> simp [IntKind.wrap, IntKind.bits, IntKind.signed] <;> (try split) <;> omega

theorem wrap_lo (k : IntKind) (n : Int) : lo k ≤ k.wrap n := by
  cases k <;> simp [lo, IntKind.wrap, IntKind.bits, IntKind.signed] <;> (try split) <;> omega
theorem wrap_hi (k : IntKind) (n : Int) : k.wrap n ≤ hi k := by
  cases k <;> simp [hi, IntKind.wrap, IntKind.bits, IntKind.signed] <;> (try split) <;> omega

/-- '&' on all integers. -/
def iand : Int → Int → Int
  | .ofNat a, .ofNat b => .ofNat (a &&& b)
  | .ofNat a, .negSucc b => .ofNat (a ^^^ (a &&& b))
  | .negSucc a, .ofNat b => .ofNat (b ^^^ (a &&& b))
  | .negSucc a, .negSucc b => .negSucc (a ||| b)
def inot (a : Int) : Int := -a - 1
def ior (a b : Int) : Int := inot (iand (inot a) (inot b))
def iandnot (a b : Int) : Int := iand a (inot b)
def ixor (a b : Int) : Int := ior (iandnot a b) (iandnot b a)

theorem inot_ofNat (a : Nat) : inot (.ofNat a) = .negSucc a := by simp only [inot, Int.ofNat_eq_natCast, Int.negSucc_eq]; omega
theorem inot_negSucc (a : Nat) : inot (.negSucc a) = .ofNat a := by simp only [inot, Int.ofNat_eq_natCast, Int.negSucc_eq]; omega

theorem ofInt_inot (n : Nat) (a : Int) : BitVec.ofInt n (inot a) = ~~~ BitVec.ofInt n a := by
  cases a with
  | ofNat a => rw [inot_ofNat, BitVec.ofInt_negSucc_eq_not_ofNat]; simp
  | negSucc a => rw [inot_negSucc, BitVec.ofInt_negSucc_eq_not_ofNat]; simp

theorem ofInt_ofNat' (n a : Nat) : BitVec.ofInt n (.ofNat a) = BitVec.ofNat n a := by simp

theorem ofInt_iand (n : Nat) (a b : Int) : BitVec.ofInt n (iand a b) = BitVec.ofInt n a &&& BitVec.ofInt n b := by
  cases a <;> cases b <;> simp only [iand, BitVec.ofInt_negSucc_eq_not_ofNat, ofInt_ofNat'] <;> apply BitVec.eq_of_getLsbD_eq <;> intro i hi <;>
    simp only [BitVec.getLsbD_and, BitVec.getLsbD_not, BitVec.getLsbD_ofNat, Nat.testBit_and, Nat.testBit_or, Nat.testBit_xor, hi, decide_true, Bool.true_and] <;> grind
theorem ofInt_ior (n : Nat) (a b : Int) : BitVec.ofInt n (ior a b) = BitVec.ofInt n a ||| BitVec.ofInt n b := by
  simp only [ior, ofInt_inot, ofInt_iand]
  apply BitVec.eq_of_getLsbD_eq; intro i hi
  simp [hi]
theorem ofInt_iandnot (n : Nat) (a b : Int) : BitVec.ofInt n (iandnot a b) = BitVec.ofInt n a &&& ~~~ BitVec.ofInt n b := by
  simp only [iandnot, ofInt_inot, ofInt_iand]
theorem ofInt_ixor (n : Nat) (a b : Int) : BitVec.ofInt n (ixor a b) = BitVec.ofInt n a ^^^ BitVec.ofInt n b := by
  simp only [ixor, ofInt_ior, ofInt_iandnot]
  apply BitVec.eq_of_getLsbD_eq; intro i hi
  simp [hi]; grind

theorem wrap_ofInt (k : IntKind) (z : Int) : k.wrap ((BitVec.ofInt k.bits z).toNat : Int) = k.wrap z := by
  have : ((BitVec.ofInt k.bits z).toNat : Int) = z % (2 ^ k.bits : Int) := by
    rw [BitVec.toNat_ofInt]
    have : (0 : Int) ≤ z % ((2 ^ k.bits : Nat) : Int) := Int.emod_nonneg _ (by have := Nat.pow_pos (n := k.bits) (show 0 < 2 by omega); omega)
    rw [Int.toNat_of_nonneg this]; simp
  rw [this]
  simp only [IntKind.wrap, Int.emod_emod]

/-- A number fits a signed kind just if shifting out all its bits leaves 0 or -1; kept by '&'. -/
theorem iand_range (a b : Int) (m : Nat) (ha : -(2 ^ m : Int) ≤ a ∧ a < 2 ^ m) (hb : -(2 ^ m : Int) ≤ b ∧ b < 2 ^ m) : -(2 ^ m : Int) ≤ iand a b ∧ iand a b < 2 ^ m := by
  have hand : ∀ x y : Nat, y < 2 ^ m → x &&& y < 2 ^ m := fun x y h => Nat.and_lt_two_pow x h
  have hxor : ∀ x y : Nat, x < 2 ^ m → y < 2 ^ m → x ^^^ y < 2 ^ m := fun x y h h' => Nat.xor_lt_two_pow h h'
  have hor : ∀ x y : Nat, x < 2 ^ m → y < 2 ^ m → x ||| y < 2 ^ m := fun x y h h' => Nat.or_lt_two_pow h h'
  have hp : (2 ^ m : Int) = ((2 ^ m : Nat) : Int) := by simp
  simp only [hp] at ha hb ⊢
  clear hp
  generalize (2 ^ m : Nat) = M at *
  cases a <;> cases b <;> simp only [iand, Int.ofNat_eq_natCast, Int.negSucc_eq] at *
  · rename_i x y
    have := hand x y (by omega)
    omega
  · rename_i x y
    have := hxor x (x &&& y) (by omega) (hand x y (by omega))
    omega
  · rename_i x y
    have := hxor y (x &&& y) (by omega) (hand x y (by omega))
    omega
  · rename_i x y
    have := hor x y (by omega) (by omega)
    omega
theorem inot_range (a : Int) (m : Nat) (ha : -(2 ^ m : Int) ≤ a ∧ a < 2 ^ m) : -(2 ^ m : Int) ≤ inot a ∧ inot a < 2 ^ m := by unfold inot; omega
theorem ior_range (a b : Int) (m : Nat) (ha : -(2 ^ m : Int) ≤ a ∧ a < 2 ^ m) (hb : -(2 ^ m : Int) ≤ b ∧ b < 2 ^ m) : -(2 ^ m : Int) ≤ ior a b ∧ ior a b < 2 ^ m :=
  inot_range _ _ (iand_range _ _ _ (inot_range _ _ ha) (inot_range _ _ hb))
theorem iandnot_range (a b : Int) (m : Nat) (ha : -(2 ^ m : Int) ≤ a ∧ a < 2 ^ m) (hb : -(2 ^ m : Int) ≤ b ∧ b < 2 ^ m) : -(2 ^ m : Int) ≤ iandnot a b ∧ iandnot a b < 2 ^ m :=
  iand_range _ _ _ ha (inot_range _ _ hb)
theorem ixor_range (a b : Int) (m : Nat) (ha : -(2 ^ m : Int) ≤ a ∧ a < 2 ^ m) (hb : -(2 ^ m : Int) ≤ b ∧ b < 2 ^ m) : -(2 ^ m : Int) ≤ ixor a b ∧ ixor a b < 2 ^ m :=
  ior_range _ _ _ (iandnot_range _ _ _ ha hb) (iandnot_range _ _ _ hb ha)

theorem iand_nn (a b : Nat) : iand (a : Int) (b : Int) = ((a &&& b : Nat) : Int) := rfl
theorem iandnot_nn (a b : Nat) : iandnot (a : Int) (b : Int) = ((a ^^^ (a &&& b) : Nat) : Int) := by
  show iand (.ofNat a) (inot (.ofNat b)) = _
  rw [inot_ofNat]; rfl
theorem ior_nn (a b : Nat) : ior (a : Int) (b : Int) = ((a ||| b : Nat) : Int) := by
  show inot (iand (inot (.ofNat a)) (inot (.ofNat b))) = _
  rw [inot_ofNat, inot_ofNat]
  show inot (.negSucc (a ||| b)) = _
  rw [inot_negSucc]; rfl
theorem ixor_nn (a b : Nat) : ixor (a : Int) (b : Int) = ((a ^^^ b : Nat) : Int) := by
  unfold ixor
  rw [iandnot_nn, iandnot_nn, ior_nn]
  congr 1
  apply Nat.eq_of_testBit_eq; intro i
  simp only [Nat.testBit_or, Nat.testBit_xor, Nat.testBit_and]; grind

/-- What a kind's '&', '|', '^', '&^' give: within the kind. -/
def bitI (op : BinOp) (a b : Int) : Int := match op with
  | .and => iand a b | .or => ior a b | .xor => ixor a b | .andNot => iandnot a b | _ => 0

theorem bitI_signed (op : BinOp) (a b : Int) (m : Nat) (ha : -(2 ^ m : Int) ≤ a ∧ a < 2 ^ m) (hb : -(2 ^ m : Int) ≤ b ∧ b < 2 ^ m) : -(2 ^ m : Int) ≤ bitI op a b ∧ bitI op a b < 2 ^ m := by
  have hp : (0 : Int) < 2 ^ m := Int.pow_pos (by omega)
  cases op <;> simp only [bitI] <;> first | exact iand_range _ _ _ ha hb | exact ior_range _ _ _ ha hb | exact ixor_range _ _ _ ha hb | exact iandnot_range _ _ _ ha hb | omega
theorem bitI_nat (op : BinOp) (a b : Nat) (m : Nat) (ha : a < 2 ^ m) (hb : b < 2 ^ m) : ∃ c : Nat, bitI op (a : Int) (b : Int) = (c : Int) ∧ c < 2 ^ m := by
  have h1 := Nat.and_lt_two_pow a (y := b) (n := m) hb
  cases op <;> simp only [bitI, iand_nn, ior_nn, ixor_nn, iandnot_nn] <;>
    first
      | exact ⟨_, rfl, h1⟩
      | exact ⟨_, rfl, Nat.or_lt_two_pow ha hb⟩
      | exact ⟨_, rfl, Nat.xor_lt_two_pow ha hb⟩
      | exact ⟨_, rfl, Nat.xor_lt_two_pow ha h1⟩
      | exact ⟨0, rfl, Nat.pow_pos (by omega)⟩

theorem bitI_in (op : BinOp) (k : IntKind) (a b : Int) (ha : lo k ≤ a) (ha' : a ≤ hi k) (hb : lo k ≤ b) (hb' : b ≤ hi k) : lo k ≤ bitI op a b ∧ bitI op a b ≤ hi k := by
  cases k <;> simp only [lo, hi] at *
  · have := bitI_signed op a b 7 (by omega) (by omega); omega
  · have := bitI_signed op a b 15 (by omega) (by omega); omega
  · have := bitI_signed op a b 31 (by omega) (by omega); omega
  · have := bitI_signed op a b 63 (by omega) (by omega); omega
  · obtain ⟨A, rfl⟩ := Int.eq_ofNat_of_zero_le ha; obtain ⟨B, rfl⟩ := Int.eq_ofNat_of_zero_le hb
    obtain ⟨c, h, h'⟩ := bitI_nat op A B 8 (by omega) (by omega); omega
  · obtain ⟨A, rfl⟩ := Int.eq_ofNat_of_zero_le ha; obtain ⟨B, rfl⟩ := Int.eq_ofNat_of_zero_le hb
    obtain ⟨c, h, h'⟩ := bitI_nat op A B 16 (by omega) (by omega); omega
  · obtain ⟨A, rfl⟩ := Int.eq_ofNat_of_zero_le ha; obtain ⟨B, rfl⟩ := Int.eq_ofNat_of_zero_le hb
    obtain ⟨c, h, h'⟩ := bitI_nat op A B 32 (by omega) (by omega); omega
  · obtain ⟨A, rfl⟩ := Int.eq_ofNat_of_zero_le ha; obtain ⟨B, rfl⟩ := Int.eq_ofNat_of_zero_le hb
    obtain ⟨c, h, h'⟩ := bitI_nat op A B 64 (by omega) (by omega); omega

theorem intBits_eq (P : Program) (w : World) (op : BinOp) (k : IntKind) (a b : Int) (hop : op = .and ∨ op = .or ∨ op = .xor ∨ op = .andNot)
    (ha : lo k ≤ a) (ha' : a ≤ hi k) (hb : lo k ≤ b) (hb' : b ≤ hi k) : (Op.intBits op k a b).run P w = .ok (.int k (bitI op a b)) w := by
  have h := bitI_in op k a b ha ha' hb hb'
  rw [← wrap_in h.1 h.2, ← wrap_ofInt]
  rcases hop with rfl | rfl | rfl | rfl <;> simp [Op.intBits, bitI, ofInt_iand, ofInt_ior, ofInt_ixor, ofInt_iandnot]

end Go.AX
