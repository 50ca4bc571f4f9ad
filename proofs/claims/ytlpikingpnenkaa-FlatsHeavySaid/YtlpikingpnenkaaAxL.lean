/-
 Numbers: two's complement on Int without a width, and that the model's operations on integers are these. Abstract values, and what they say of the model's: lists that came in ('imm': nobody writes them), blocks of the call's own ('own', 'ptr'). The operations that touch no memory, run on abstract values: what they yield and what they ask; and that the model's run is this. 'pv': an operation that touches no memory, on abstract values: what it asks, what it yields; and that the model's run yields just this. Steps that touch memory of the call's own, on abstract states. make, append, composite literals, on abstract states. append on abstract states. One operation, a list of operations, a region, code: on abstract states. Code on abstract states: the rules. Calls by what is said of the callee ('Pure': lists in, new lists out), and how this is shown of a function; states that say less. A call, by what is said of the callee. Rewriting rules by which a list of operations is run on an abstract state.  Conditions: none.
-/
import Derived.WalkKit
import Derived.Laws.BytesArg
import Derived.Below
import Derived.Maps.AppendAt
import Derived.Laws.AppendOwnNone
import Derived.Deep.LoopGhost
import Derived.StillTail
import Derived.Lib.TrailingZeros
set_option linter.unusedSimpArgs false
set_option linter.unusedVariables false
namespace Go.AX
open Go
def lo : IntKind → Int
 | .i8 => -128 | .i16 => -32768 | .i32 => -2147483648 | .i64 => -9223372036854775808 | _ => 0
def hi : IntKind → Int
 | .i8 => 127 | .i16 => 32767 | .i32 => 2147483647 | .i64 => 9223372036854775807
 | .u8 => 255 | .u16 => 65535 | .u32 => 4294967295 | .u64 => 18446744073709551615
def inb (k : IntKind) (n : Int) : Bool := decide (lo k ≤ n) && decide (n ≤ hi k)
theorem inb_iff {k : IntKind} {n : Int} : inb k n = true ↔ lo k ≤ n ∧ n ≤ hi k := by simp [inb]
theorem wrap_in {k : IntKind} {n : Int} (h1 : lo k ≤ n) (h2 : n ≤ hi k) : k.wrap n = n := by
 cases k <;> simp only [lo, hi] at h1 h2 <;> simp [IntKind.wrap, IntKind.bits, IntKind.signed] <;> (try split) <;> omega
/-- '&' on all integers. -/
def iand : Int → Int → Int
 | .ofNat a, .ofNat b => .ofNat (a &&& b)
 | .ofNat a, .negSucc b => .ofNat (a ^^^ (a &&& b))
 | .negSucc a, .ofNat b => .ofNat (b ^^^ (a &&& b))
 | .negSucc a, .negSucc b => .negSucc (a ||| b)
def inot (a : Int) : Int := -a - 1
def ior (a b : Int) : Int := inot (iand (inot a) (inot b))
def iandnot (a b : Int) : Int := iand a (inot b)
def ixor (a b : Int) : Int := ior (iandnot a b) (iandnot b a)
theorem inot_ofNat (a : Nat) : inot (.ofNat a) = .negSucc a := by simp only [inot, Int.ofNat_eq_natCast, Int.negSucc_eq]; omega
theorem inot_negSucc (a : Nat) : inot (.negSucc a) = .ofNat a := by simp only [inot, Int.ofNat_eq_natCast, Int.negSucc_eq]; omega
theorem ofInt_inot (n : Nat) (a : Int) : BitVec.ofInt n (inot a) = ~~~ BitVec.ofInt n a := by
 cases a with
 | ofNat a => rw [inot_ofNat, BitVec.ofInt_negSucc_eq_not_ofNat]; simp
 | negSucc a => rw [inot_negSucc, BitVec.ofInt_negSucc_eq_not_ofNat]; simp
theorem ofInt_ofNat' (n a : Nat) : BitVec.ofInt n (.ofNat a) = BitVec.ofNat n a := by simp
theorem ofInt_iand (n : Nat) (a b : Int) : BitVec.ofInt n (iand a b) = BitVec.ofInt n a &&& BitVec.ofInt n b := by
 cases a <;> cases b <;> simp only [iand, BitVec.ofInt_negSucc_eq_not_ofNat, ofInt_ofNat'] <;> apply BitVec.eq_of_getLsbD_eq <;> intro i hi <;>
  simp only [BitVec.getLsbD_and, BitVec.getLsbD_not, BitVec.getLsbD_ofNat, Nat.testBit_and, Nat.testBit_or, Nat.testBit_xor, hi, decide_true, Bool.true_and] <;> grind
theorem ofInt_ior (n : Nat) (a b : Int) : BitVec.ofInt n (ior a b) = BitVec.ofInt n a ||| BitVec.ofInt n b := by
 simp only [ior, ofInt_inot, ofInt_iand]
 apply BitVec.eq_of_getLsbD_eq; intro i hi
 simp [hi]
theorem ofInt_iandnot (n : Nat) (a b : Int) : BitVec.ofInt n (iandnot a b) = BitVec.ofInt n a &&& ~~~ BitVec.ofInt n b := by
 simp only [iandnot, ofInt_inot, ofInt_iand]
theorem ofInt_ixor (n : Nat) (a b : Int) : BitVec.ofInt n (ixor a b) = BitVec.ofInt n a ^^^ BitVec.ofInt n b := by
 simp only [ixor, ofInt_ior, ofInt_iandnot]
 apply BitVec.eq_of_getLsbD_eq; intro i hi
 simp [hi]; grind
theorem wrap_ofInt (k : IntKind) (z : Int) : k.wrap ((BitVec.ofInt k.bits z).toNat : Int) = k.wrap z := by
 have : ((BitVec.ofInt k.bits z).toNat : Int) = z % (2 ^ k.bits : Int) := by
  rw [BitVec.toNat_ofInt]
  have : (0 : Int) ≤ z % ((2 ^ k.bits : Nat) : Int) := Int.emod_nonneg _ (by have := Nat.pow_pos (n := k.bits) (show 0 < 2 by omega); omega)
  rw [Int.toNat_of_nonneg this]; simp
 rw [this]
 simp only [IntKind.wrap, Int.emod_emod]
/-- A number fits a signed kind just if shifting out all its bits leaves 0 or -1; kept by '&'. -/
theorem iand_range (a b : Int) (m : Nat) (ha : -(2 ^ m : Int) ≤ a ∧ a < 2 ^ m) (hb : -(2 ^ m : Int) ≤ b ∧ b < 2 ^ m) : -(2 ^ m : Int) ≤ iand a b ∧ iand a b < 2 ^ m := by
 have hand : ∀ x y : Nat, y < 2 ^ m → x &&& y < 2 ^ m := fun x y h => Nat.and_lt_two_pow x h
 have hxor : ∀ x y : Nat, x < 2 ^ m → y < 2 ^ m → x ^^^ y < 2 ^ m := fun x y h h' => Nat.xor_lt_two_pow h h'
 have hor : ∀ x y : Nat, x < 2 ^ m → y < 2 ^ m → x ||| y < 2 ^ m := fun x y h h' => Nat.or_lt_two_pow h h'
 have hp : (2 ^ m : Int) = ((2 ^ m : Nat) : Int) := by simp
 simp only [hp] at ha hb ⊢
 clear hp
 generalize (2 ^ m : Nat) = M at *
 cases a <;> cases b <;> simp only [iand, Int.ofNat_eq_natCast, Int.negSucc_eq] at *
 ·rename_i x y
  have := hand x y (by omega)
  omega
 ·rename_i x y
  have := hxor x (x &&& y) (by omega) (hand x y (by omega))
  omega
 ·rename_i x y
  have := hxor y (x &&& y) (by omega) (hand x y (by omega))
  omega
 ·rename_i x y
  have := hor x y (by omega) (by omega)
  omega
theorem inot_range (a : Int) (m : Nat) (ha : -(2 ^ m : Int) ≤ a ∧ a < 2 ^ m) : -(2 ^ m : Int) ≤ inot a ∧ inot a < 2 ^ m := by unfold inot; omega
theorem ior_range (a b : Int) (m : Nat) (ha : -(2 ^ m : Int) ≤ a ∧ a < 2 ^ m) (hb : -(2 ^ m : Int) ≤ b ∧ b < 2 ^ m) : -(2 ^ m : Int) ≤ ior a b ∧ ior a b < 2 ^ m :=
 inot_range _ _ (iand_range _ _ _ (inot_range _ _ ha) (inot_range _ _ hb))
theorem iandnot_range (a b : Int) (m : Nat) (ha : -(2 ^ m : Int) ≤ a ∧ a < 2 ^ m) (hb : -(2 ^ m : Int) ≤ b ∧ b < 2 ^ m) : -(2 ^ m : Int) ≤ iandnot a b ∧ iandnot a b < 2 ^ m :=
 iand_range _ _ _ ha (inot_range _ _ hb)
theorem ixor_range (a b : Int) (m : Nat) (ha : -(2 ^ m : Int) ≤ a ∧ a < 2 ^ m) (hb : -(2 ^ m : Int) ≤ b ∧ b < 2 ^ m) : -(2 ^ m : Int) ≤ ixor a b ∧ ixor a b < 2 ^ m :=
 ior_range _ _ _ (iandnot_range _ _ _ ha hb) (iandnot_range _ _ _ hb ha)
theorem iand_nn (a b : Nat) : iand (a : Int) (b : Int) = ((a &&& b : Nat) : Int) := rfl
theorem iandnot_nn (a b : Nat) : iandnot (a : Int) (b : Int) = ((a ^^^ (a &&& b) : Nat) : Int) := by
 show iand (.ofNat a) (inot (.ofNat b)) = _
 rw [inot_ofNat]; rfl
theorem ior_nn (a b : Nat) : ior (a : Int) (b : Int) = ((a ||| b : Nat) : Int) := by
 show inot (iand (inot (.ofNat a)) (inot (.ofNat b))) = _
 rw [inot_ofNat, inot_ofNat]
 show inot (.negSucc (a ||| b)) = _
 rw [inot_negSucc]; rfl
theorem ixor_nn (a b : Nat) : ixor (a : Int) (b : Int) = ((a ^^^ b : Nat) : Int) := by
 unfold ixor
 rw [iandnot_nn, iandnot_nn, ior_nn]
 congr 1
 apply Nat.eq_of_testBit_eq; intro i
 simp only [Nat.testBit_or, Nat.testBit_xor, Nat.testBit_and]; grind
/-- What a kind's '&', '|', '^', '&^' give: within the kind. -/
def bitI (op : BinOp) (a b : Int) : Int := match op with
 | .and => iand a b | .or => ior a b | .xor => ixor a b | .andNot => iandnot a b | _ => 0
theorem bitI_signed (op : BinOp) (a b : Int) (m : Nat) (ha : -(2 ^ m : Int) ≤ a ∧ a < 2 ^ m) (hb : -(2 ^ m : Int) ≤ b ∧ b < 2 ^ m) : -(2 ^ m : Int) ≤ bitI op a b ∧ bitI op a b < 2 ^ m := by
 have hp : (0 : Int) < 2 ^ m := Int.pow_pos (by omega)
 cases op <;> simp only [bitI] <;> first | exact iand_range _ _ _ ha hb | exact ior_range _ _ _ ha hb | exact ixor_range _ _ _ ha hb | exact iandnot_range _ _ _ ha hb | omega
theorem bitI_nat (op : BinOp) (a b : Nat) (m : Nat) (ha : a < 2 ^ m) (hb : b < 2 ^ m) : ∃ c : Nat, bitI op (a : Int) (b : Int) = (c : Int) ∧ c < 2 ^ m := by
 have h1 := Nat.and_lt_two_pow a (y := b) (n := m) hb
 cases op <;> simp only [bitI, iand_nn, ior_nn, ixor_nn, iandnot_nn] <;>
  first
   | exact ⟨_, rfl, h1⟩
   | exact ⟨_, rfl, Nat.or_lt_two_pow ha hb⟩
   | exact ⟨_, rfl, Nat.xor_lt_two_pow ha hb⟩
   | exact ⟨_, rfl, Nat.xor_lt_two_pow ha h1⟩
   | exact ⟨0, rfl, Nat.pow_pos (by omega)⟩
theorem bitI_in (op : BinOp) (k : IntKind) (a b : Int) (ha : lo k ≤ a) (ha' : a ≤ hi k) (hb : lo k ≤ b) (hb' : b ≤ hi k) : lo k ≤ bitI op a b ∧ bitI op a b ≤ hi k := by
 cases k <;> simp only [lo, hi] at *
 ·have := bitI_signed op a b 7 (by omega) (by omega); omega
 ·have := bitI_signed op a b 15 (by omega) (by omega); omega
 ·have := bitI_signed op a b 31 (by omega) (by omega); omega
 ·have := bitI_signed op a b 63 (by omega) (by omega); omega
 ·obtain ⟨A, rfl⟩ := Int.eq_ofNat_of_zero_le ha; obtain ⟨B, rfl⟩ := Int.eq_ofNat_of_zero_le hb
  obtain ⟨c, h, h'⟩ := bitI_nat op A B 8 (by omega) (by omega); omega
 ·obtain ⟨A, rfl⟩ := Int.eq_ofNat_of_zero_le ha; obtain ⟨B, rfl⟩ := Int.eq_ofNat_of_zero_le hb
  obtain ⟨c, h, h'⟩ := bitI_nat op A B 16 (by omega) (by omega); omega
 ·obtain ⟨A, rfl⟩ := Int.eq_ofNat_of_zero_le ha; obtain ⟨B, rfl⟩ := Int.eq_ofNat_of_zero_le hb
  obtain ⟨c, h, h'⟩ := bitI_nat op A B 32 (by omega) (by omega); omega
 ·obtain ⟨A, rfl⟩ := Int.eq_ofNat_of_zero_le ha; obtain ⟨B, rfl⟩ := Int.eq_ofNat_of_zero_le hb
  obtain ⟨c, h, h'⟩ := bitI_nat op A B 64 (by omega) (by omega); omega
theorem intBits_eq (P : Program) (w : World) (op : BinOp) (k : IntKind) (a b : Int) (hop : op = .and ∨ op = .or ∨ op = .xor ∨ op = .andNot)
  (ha : lo k ≤ a) (ha' : a ≤ hi k) (hb : lo k ≤ b) (hb' : b ≤ hi k) : (Op.intBits op k a b).run P w = .ok (.int k (bitI op a b)) w := by
 have h := bitI_in op k a b ha ha' hb hb'
 rw [← wrap_in h.1 h.2, ← wrap_ofInt]
 rcases hop with rfl | rfl | rfl | rfl <;> simp [Op.intBits, bitI, ofInt_iand, ofInt_ior, ofInt_ixor, ofInt_iandnot]
end Go.AX
set_option linter.unusedSimpArgs false
set_option linter.unusedVariables false
namespace Go.AX
open Go Go.RowKit
inductive Loc where
 | unused
 | nils
 | at (g cap sz : Nat) (et : TypeId)
 | mapAt (g : Nat)
 | rows (gs : List (Option (Nat × Nat))) (et : TypeId)
inductive AVal where
 | junk
 | int (k : IntKind) (n : Int)
 | bool (b : Bool)
 | str (s : List UInt8)
 | nil
 | agg (l : List AVal)
 | tup (l : List AVal)
 | imm (sz : Nat) (es : List (List AVal))
 | immp (es : List AVal)
 | own (id n : Nat)
 | ptr (id i j : Nat)
 | func (f : Nat) (caps : List AVal)
 | opt (b : Bool) (v : AVal)
 | ints (k : IntKind) (xs : List Int)
 | intp (k : IntKind) (n : Int)
 | fn (sz n : Nat) (f : Nat → List AVal)
 | ownN (id n : Nat)
 | abs (l : Loc) (i j : Nat)
 | mp (id : Nat)
 | row (id i n : Nat)
 | rowp (id i j : Nat)
 deriving Inhabited
def fnEs (n : Nat) (f : Nat → List AVal) : List (List AVal) := (List.range n).map f
def intEs (k : IntKind) (xs : List Int) : List (List AVal) := xs.map fun x => [AVal.int k x]
abbrev Fz := Nat → Option Obj
abbrev Phi := Nat → Loc
def cellF (F : Fz) (a : Addr) : Option Value :=
 match F a.block with
 | some (.cells c _ _) => if a.spot.isSome then none else c[a.off]?
 | _ => none
/-- No block of the call's own. -/
def φ0 : Phi := fun _ => .unused
inductive RepV (F : Fz) : Phi → AVal → Value → Prop
 | junk {φ : Phi} (v : Value) : RepV F φ .junk v
 | int {φ : Phi} (k : IntKind) (n : Int) : lo k ≤ n → n ≤ hi k → RepV F φ (.int k n) (.int k n)
 | bool {φ : Phi} (b : Bool) : RepV F φ (.bool b) (.bool b)
 | str {φ : Phi} (s : ByteArray) (l : List UInt8) : s.data.toList = l → l.length ≤ maxLen → RepV F φ (.str l) (.string s)
 | nil {φ : Phi} : RepV F φ .nil (.slice none 0 0)
 | agg {φ : Phi} (l : List AVal) (vs : Array Value) : l.length = vs.size → (∀ (i : Nat) (v : Value), vs[i]? = some v → v.oneCell' = true) → (∀ (i : Nat) (x : AVal) (v : Value), l[i]? = some x → vs[i]? = some v → RepV F φ x v) → RepV F φ (.agg l) (.agg vs)
 | tup {φ : Phi} (l : List AVal) (vs : Array Value) : l.length = vs.size → (∀ (i : Nat) (x : AVal) (v : Value), l[i]? = some x → vs[i]? = some v → RepV F φ x v) → RepV F φ (.tup l) (.tuple vs)
 | imm {φ : Phi} (sz : Nat) (es : List (List AVal)) (A : Option Addr) (n c : Nat) (u : Nat → Nat → Value) : n = es.length → n ≤ c → c ≤ maxLen → (∀ (i : Nat) (e : List AVal), es[i]? = some e → e.length = sz) → (0 < n → A ≠ none) →
   (∀ (ad : Addr) (i : Nat) (e : List AVal) (j : Nat) (x : AVal), A = some ad → es[i]? = some e → e[j]? = some x → cellF F (ad.add (i * sz + j)) = some (u i j) ∧ (u i j).oneCell' = true) →
   (∀ (i : Nat) (e : List AVal) (j : Nat) (x : AVal), es[i]? = some e → e[j]? = some x → RepV F φ0 x (u i j)) → RepV F φ (.imm sz es) (.slice A n c)
 | immp {φ : Phi} (es : List AVal) (ad : Addr) (u : Nat → Value) : (∀ (j : Nat) (x : AVal), es[j]? = some x → cellF F (ad.add j) = some (u j) ∧ (u j).oneCell' = true) → (∀ (j : Nat) (x : AVal), es[j]? = some x → RepV F φ0 x (u j)) → RepV F φ (.immp es) (.pointer (some ad))
 | own {φ : Phi} (id n g cap sz : Nat) (et : TypeId) : φ id = .at g cap sz et → n ≤ cap → cap ≤ maxLen → RepV F φ (.own id n) (.slice (some ⟨g, 0, none⟩) n cap)
 | ownNil {φ : Phi} (id : Nat) : φ id = .nils → RepV F φ (.own id 0) (.slice none 0 0)
 | ptr {φ : Phi} (id i j g cap sz : Nat) (et : TypeId) : φ id = .at g cap sz et → RepV F φ (.ptr id i j) (.pointer (some ⟨g, i * sz + j, none⟩))
 | func {φ : Phi} (f : Nat) (caps : List AVal) (vs : Array Value) : caps.length = vs.size → (∀ (i : Nat) (x : AVal) (v : Value), caps[i]? = some x → vs[i]? = some v → RepV F φ x v) → RepV F φ (.func f caps) (.func (.func f) #[] vs)
 | opt {φ : Phi} (b : Bool) (x : AVal) (v : Value) : (b = true → RepV F φ x v) → (b = false → v = undef) → RepV F φ (.opt b x) v
 | ints {φ : Phi} (k : IntKind) (xs : List Int) (v : Value) : RepV F φ (.imm 1 (intEs k xs)) v → RepV F φ (.ints k xs) v
 | intp {φ : Phi} (k : IntKind) (n : Int) (v : Value) : RepV F φ (.immp [.int k n]) v → RepV F φ (.intp k n) v
 | fn {φ : Phi} (sz n : Nat) (f : Nat → List AVal) (v : Value) : RepV F φ (.imm sz (fnEs n f)) v → RepV F φ (.fn sz n f) v
 | ownN {φ : Phi} (id n g cap sz : Nat) (et : TypeId) : φ id = .at g cap sz et → n ≤ cap → cap ≤ maxLen → RepV F φ (.ownN id n) (.slice (some ⟨g, 0, none⟩) n cap)
 | abs {φ : Phi} (g cap sz : Nat) (et : TypeId) (i j : Nat) : RepV F φ (.abs (.at g cap sz et) i j) (.pointer (some ⟨g, i * sz + j, none⟩))
 | mp {φ : Phi} (id g : Nat) : φ id = .mapAt g → RepV F φ (.mp id) (.map (some g))
 | row {φ : Phi} (id i n g c : Nat) (gs : List (Option (Nat × Nat))) (et : TypeId) : φ id = .rows gs et → gs[i]? = some (some (g, c)) → n ≤ c → c ≤ maxLen → RepV F φ (.row id i n) (.slice (some ⟨g, 0, none⟩) n c)
 | rowNil {φ : Phi} (id i : Nat) (gs : List (Option (Nat × Nat))) (et : TypeId) : φ id = .rows gs et → gs[i]? = some none → RepV F φ (.row id i 0) (.slice none 0 0)
 | rowp {φ : Phi} (id i j g c : Nat) (gs : List (Option (Nat × Nat))) (et : TypeId) : φ id = .rows gs et → gs[i]? = some (some (g, c)) → RepV F φ (.rowp id i j) (.pointer (some ⟨g, j, none⟩))
/-- F' says no less than F; φ' of used names the same. -/
def FLe (F F' : Fz) : Prop := ∀ b o, F b = some o → F' b = some o
def PLe (φ φ' : Phi) : Prop := ∀ id, φ id ≠ .unused → φ' id = φ id
theorem FLe.refl (F : Fz) : FLe F F := fun _ _ h => h
theorem FLe.trans {F G H : Fz} (h : FLe F G) (k : FLe G H) : FLe F H := fun b o x => k b o (h b o x)
theorem PLe.refl (φ : Phi) : PLe φ φ := fun _ _ => rfl
theorem cellF_le {F F' : Fz} (h : FLe F F') {a : Addr} {v : Value} (hc : cellF F a = some v) : cellF F' a = some v := by
 unfold cellF at *
 cases hF : F a.block with
 | none => rw [hF] at hc; cases hc
 | some o => rw [h _ _ hF]; rw [hF] at hc; exact hc
theorem PLe0 (φ : Phi) : PLe φ0 φ := fun _ h => absurd rfl h
theorem RepV.le {F F' : Fz} (hF : FLe F F') {φ : Phi} {x : AVal} {v : Value} (h : RepV F φ x v) : ∀ {φ' : Phi}, PLe φ φ' → RepV F' φ' x v := by
 induction h with
 | junk v => exact fun _ => .junk v
 | int k n h1 h2 => exact fun _ => .int k n h1 h2
 | bool b => exact fun _ => .bool b
 | str s l h h' => exact fun _ => .str s l h h'
 | nil => exact fun _ => .nil
 | agg l vs hl h1 _ ih => exact fun hφ => .agg l vs hl h1 fun i x v a b => ih i x v a b hφ
 | tup l vs hl _ ih => exact fun hφ => .tup l vs hl fun i x v a b => ih i x v a b hφ
 | imm sz es A n c u h1 h2 h3 h4 h5 h6 _ ih => exact fun _ => .imm sz es A n c u h1 h2 h3 h4 h5 (fun ad i e j x a b d => ⟨cellF_le hF (h6 ad i e j x a b d).1, (h6 ad i e j x a b d).2⟩) fun i e j x a b => ih i e j x a b (PLe.refl _)
 | immp es ad u h1 _ ih => exact fun _ => .immp es ad u (fun j x a => ⟨cellF_le hF (h1 j x a).1, (h1 j x a).2⟩) fun j x a => ih j x a (PLe.refl _)
 | own id n g cap sz et h1 h2 h3 => exact fun hφ => .own id n g cap sz et (by rw [hφ id (by rw [h1]; simp), h1]) h2 h3
 | ownNil id h1 => exact fun hφ => .ownNil id (by rw [hφ id (by rw [h1]; simp), h1])
 | ptr id i j g cap sz et h1 => exact fun hφ => .ptr id i j g cap sz et (by rw [hφ id (by rw [h1]; simp), h1])
 | func f caps vs hl _ ih => exact fun hφ => .func f caps vs hl fun i x v a b => ih i x v a b hφ
 | opt b x v _ h2 ih => exact fun hφ => .opt b x v (fun hb => ih hb hφ) h2
 | ints k xs v _ ih => exact fun hφ => .ints k xs v (ih hφ)
 | intp k n v _ ih => exact fun hφ => .intp k n v (ih hφ)
 | fn sz n f v _ ih => exact fun hφ => .fn sz n f v (ih hφ)
 | ownN id n g cap sz et h1 h2 h3 => exact fun hφ => .ownN id n g cap sz et (by rw [hφ id (by rw [h1]; simp), h1]) h2 h3
 | abs g cap sz et i j => exact fun _ => .abs g cap sz et i j
 | mp id g h1 => exact fun hφ => .mp id g (by rw [hφ id (by rw [h1]; simp), h1])
 | row id i n g c gs et h1 h2 h3 h4 => exact fun hφ => .row id i n g c gs et (by rw [hφ id (by rw [h1]; simp), h1]) h2 h3 h4
 | rowNil id i gs et h1 h2 => exact fun hφ => .rowNil id i gs et (by rw [hφ id (by rw [h1]; simp), h1]) h2
 | rowp id i j g c gs et h1 h2 => exact fun hφ => .rowp id i j g c gs et (by rw [hφ id (by rw [h1]; simp), h1]) h2
inductive Blk where
 | ints (et : TypeId) (k : IntKind) (xs : List Int)
 | gen (et : TypeId) (sz : Nat) (es : List (List AVal))
 | pin (i : Nat) (l : Loc)
 | xo (Pd : Array MapEntry → Nat → Prop)
 | rows (et : TypeId) (k : IntKind) (X : List (List Int))
 | outs (et : TypeId) (rid n : Nat) (f : Nat → Option Nat) (len : Nat → Nat)
 deriving Inhabited
/-- A list of rows: where each is. -/
def outE (rid : Nat) (f : Nat → Option Nat) (len : Nat → Nat) (i : Nat) : List AVal := [match f i with | some a => AVal.row rid a (len i) | none => AVal.nil]
def Blk.et : Blk → TypeId | .ints et _ _ => et | .gen et _ _ => et | .pin _ _ => 0 | .xo _ => 0 | .rows _ _ _ => 0 | .outs et _ _ _ _ => et
def Blk.sz : Blk → Nat | .ints _ _ _ => 1 | .gen _ sz _ => sz | .pin _ _ => 0 | .xo _ => 1 | .rows _ _ _ => 1 | .outs _ _ _ _ _ => 1
def Blk.es : Blk → List (List AVal) | .ints _ k xs => intEs k xs | .gen _ _ es => es | .pin _ _ => [] | .xo _ => [[]] | .rows _ _ _ => [[]] | .outs _ rid n f len => fnEs n (outE rid f len)
/-- No pin. -/
def Blk.np : Blk → Bool | .pin _ _ => false | _ => true
structure St where
 n : Nat
 s : List (Nat × AVal)
 h : List (Option Blk)
def look : List (Nat × AVal) → Nat → AVal
 | [], _ => .junk
 | (k, v) :: r, i => if k = i then v else look r i
def putL : List (Nat × AVal) → Nat → AVal → List (Nat × AVal)
 | [], i, v => [(i, v)]
 | (k, x) :: r, i, v => if k = i then (i, v) :: r else (k, x) :: putL r i v
def keepL (K : List Nat) : List (Nat × AVal) → List (Nat × AVal)
 | [] => []
 | (k, v) :: r => if K.contains k then (k, v) :: keepL K r else keepL K r
theorem look_putL (l : List (Nat × AVal)) (i : Nat) (v : AVal) (j : Nat) : look (putL l i v) j = if i = j then v else look l j := by
 induction l with
 | nil => by_cases h : i = j <;> simp [putL, look, h]
 | cons p r ih =>
  obtain ⟨k, x⟩ := p
  by_cases hk : k = i
  ·subst hk; by_cases h : k = j <;> simp [putL, look, h]
  ·simp only [putL, if_neg hk, look, ih]
   by_cases h : i = j
   ·subst h; simp [hk]
   ·simp [h]
theorem look_keepL_not (K : List Nat) (k : Nat) (hk : K.contains k = false) (l : List (Nat × AVal)) : look (keepL K l) k = .junk := by
 induction l with
 | nil => rfl
 | cons q r ih =>
  obtain ⟨k', x'⟩ := q
  cases hk' : K.contains k' with
  | true =>
   have : k' ≠ k := by rintro rfl; rw [hk] at hk'; cases hk'
   simp only [keepL, hk', if_true, look, if_neg this, ih]
  | false => simp only [keepL, hk', Bool.false_eq_true, if_false, ih]
theorem look_keepL (K : List Nat) (l : List (Nat × AVal)) (j : Nat) : look (keepL K l) j = look l j ∨ look (keepL K l) j = .junk := by
 cases hj : K.contains j with
 | false => exact .inr (look_keepL_not K j hj l)
 | true =>
  left
  induction l with
  | nil => rfl
  | cons p r ih =>
   obtain ⟨k, x⟩ := p
   cases hk : K.contains k with
   | true => simp only [keepL, hk, if_true, look, ih]
   | false =>
    have : k ≠ j := by rintro rfl; rw [hk] at hj; cases hj
    simp only [keepL, hk, Bool.false_eq_true, if_false, look, if_neg this, ih]
/-- Which blocks of the memory lie there. -/
def Loc.occ : Loc → Nat → Prop
 | .at g _ _ _, x => x = g
 | .mapAt g, x => x = g
 | .rows gs _, x => ∃ (i c : Nat), gs[i]? = some (some (x, c))
 | _, _ => False
/-- Rows of numbers of the call's own, and a map of the call's own: as they lie. -/
def BlkX (F : Fz) (φ : Phi) (base : Nat) (w : World) (id : Nat) : Blk → Prop
 | .xo Pd => ∃ g, φ id = .mapAt g ∧ base ≤ g ∧ F g = none ∧ ∃ es clock, w.heap[g]? = some (.map es clock) ∧ Pd es clock
 | .rows et k X => ∃ gs, φ id = .rows gs et ∧ gs.length = X.length ∧ (∀ (i j x c c' : Nat), gs[i]? = some (some (x, c)) → gs[j]? = some (some (x, c')) → i = j) ∧ (∀ (i : Nat) (xs : List Int), gs[i]? = some none → X[i]? = some xs → xs = []) ∧
   ∀ (i : Nat) (p : Nat × Nat) (xs : List Int), gs[i]? = some (some p) → X[i]? = some xs → base ≤ p.1 ∧ F p.1 = none ∧ xs.length ≤ p.2 ∧ p.2 ≤ maxLen ∧ ∃ cur, w.heap[p.1]? = some (.cells cur et (0, 0)) ∧ cur.size = p.2 ∧ ∀ (j : Nat) (v : Int), xs[j]? = some v → cur[j]? = some (.int k v) ∧ lo k ≤ v ∧ v ≤ hi k
 | _ => False
theorem BlkX.at' {F : Fz} {φ : Phi} {base : Nat} {w : World} {id : Nat} {b : Blk} (h : BlkX F φ base w id b) {g c s : Nat} {t : TypeId} : φ id = .at g c s t → False := fun e => by
 cases b <;> first | exact h | (obtain ⟨_, q, _⟩ := h; rw [q] at e; cases e)
theorem BlkX.occ {F : Fz} {φ : Phi} {base : Nat} {w : World} {id : Nat} {b : Blk} (h : BlkX F φ base w id b) {x : Nat} (hx : (φ id).occ x) : base ≤ x ∧ F x = none ∧ ∃ o, w.heap[x]? = some o := by
 cases b with
 | xo Pd =>
  obtain ⟨g, q, q1, q2, es, c, q3, _⟩ := h
  rw [q] at hx
  have e : x = g := hx
  subst e; exact ⟨q1, q2, _, q3⟩
 | rows et k X =>
  obtain ⟨gs, q, q1, _, _, q3⟩ := h
  rw [q] at hx
  obtain ⟨i, c, hp⟩ := hx
  have hi : i < gs.length := (List.getElem?_eq_some_iff.1 hp).1
  obtain ⟨z1, z2, _, _, cur, z3, _⟩ := q3 i _ _ hp (List.getElem?_eq_getElem (by omega))
  exact ⟨z1, z2, _, z3⟩
 | ints => exact False.elim h
 | gen => exact False.elim h
 | pin => exact False.elim h
 | outs => exact False.elim h
theorem BlkX.le {F F' : Fz} {φ φ' : Phi} {base : Nat} {w w' : World} {id id' : Nat} {b : Blk} (h : BlkX F φ base w id b) (hφ : φ' id' = φ id) {base' : Nat} (hN : ∀ x, (φ id).occ x → base' ≤ x ∧ F' x = none) (hw : ∀ x, (φ id).occ x → w'.heap[x]? = w.heap[x]?) : BlkX F' φ' base' w' id' b := by
 cases b with
 | ints => exact False.elim h
 | gen => exact False.elim h
 | pin => exact False.elim h
 | outs => exact False.elim h
 | xo Pd =>
  obtain ⟨g, q, q1, q2, es, c, q3, q4⟩ := h
  have ho : (φ id).occ g := by rw [q]; rfl
  exact ⟨g, by rw [hφ, q], (hN g ho).1, (hN g ho).2, es, c, by rw [hw g ho]; exact q3, q4⟩
 | rows et k X =>
  obtain ⟨gs, q, q1, q2, q4, q3⟩ := h
  refine ⟨gs, by rw [hφ, q], q1, q2, q4, fun i p xs hp hx => ?_⟩
  obtain ⟨z1, z2, z3, z4, cur, z5, z6⟩ := q3 i p xs hp hx
  have ho : (φ id).occ p.1 := by rw [q]; exact ⟨i, p.2, hp⟩
  exact ⟨(hN _ ho).1, (hN _ ho).2, z3, z4, cur, by rw [hw _ ho]; exact z5, z6⟩
/-- A block of the call's own, as it lies. -/
def BlkOk (F : Fz) (φ : Phi) (base : Nat) (w : World) (id : Nat) (b : Blk) : Prop :=
 (φ id = .nils ∧ b.es = []) ∨ (∃ g cap cur, φ id = .at g cap b.sz b.et ∧ base ≤ g ∧ F g = none ∧ w.heap[g]? = some (.cells cur b.et (0, 0)) ∧ b.es.length ≤ cap ∧ cap ≤ maxLen ∧ cur.size = cap * b.sz ∧
  ∀ i e, b.es[i]? = some e → e.length = b.sz ∧ ∀ j x, e[j]? = some x → ∃ u, cur[i * b.sz + j]? = some u ∧ RepV F φ x u ∧ u.oneCell' = true) ∨ BlkX F φ base w id b
theorem BlkOk.atC {F : Fz} {φ : Phi} {base : Nat} {w : World} {id : Nat} {b : Blk} (h : BlkOk F φ base w id b) {g0 c0 s0 : Nat} {t0 : TypeId} (hφ : φ id = .at g0 c0 s0 t0) : (φ id = .nils ∧ b.es = []) ∨ ∃ g cap cur, φ id = .at g cap b.sz b.et ∧ base ≤ g ∧ F g = none ∧ w.heap[g]? = some (.cells cur b.et (0, 0)) ∧ b.es.length ≤ cap ∧ cap ≤ maxLen ∧ cur.size = cap * b.sz ∧
  ∀ i e, b.es[i]? = some e → e.length = b.sz ∧ ∀ j x, e[j]? = some x → ∃ u, cur[i * b.sz + j]? = some u ∧ RepV F φ x u ∧ u.oneCell' = true := by
 rcases h with h | h | h
 ·exact .inl h
 ·exact .inr h
 ·exact absurd hφ h.at'
/-- Neither rows nor a map. -/
def Blk.nx : Blk → Bool | .xo _ | .rows _ _ _ => false | _ => true
theorem BlkOk.nxC {F : Fz} {φ : Phi} {base : Nat} {w : World} {id : Nat} {b : Blk} (h : BlkOk F φ base w id b) (hb : b.nx = true) : (φ id = .nils ∧ b.es = []) ∨ ∃ g cap cur, φ id = .at g cap b.sz b.et ∧ base ≤ g ∧ F g = none ∧ w.heap[g]? = some (.cells cur b.et (0, 0)) ∧ b.es.length ≤ cap ∧ cap ≤ maxLen ∧ cur.size = cap * b.sz ∧
  ∀ i e, b.es[i]? = some e → e.length = b.sz ∧ ∀ j x, e[j]? = some x → ∃ u, cur[i * b.sz + j]? = some u ∧ RepV F φ x u ∧ u.oneCell' = true := by
 rcases h with h | h | h
 ·exact .inl h
 ·exact .inr h
 ·cases b <;> first | exact False.elim h | cases hb
theorem BlkOk.occ {F : Fz} {φ : Phi} {base : Nat} {w : World} {id : Nat} {b : Blk} (h : BlkOk F φ base w id b) {x : Nat} (hx : (φ id).occ x) : base ≤ x ∧ F x = none ∧ ∃ o, w.heap[x]? = some o := by
 rcases h with ⟨q, _⟩ | ⟨g, cap, cur, q, q1, q2, q3, _⟩ | h
 ·rw [q] at hx; exact False.elim hx
 ·rw [q] at hx
  have e : x = g := hx
  subst e; exact ⟨q1, q2, _, q3⟩
 ·exact h.occ hx
/-- What the library's initialisers have laid: the table of math/bits.TrailingZeros64. -/
def GoodF (_ : Fz) : Prop := True
theorem GoodF.le {F F' : Fz} (_ : GoodF F) (_ : FLe F F') : GoodF F' := trivial
structure RelH (F : Fz) (φ : Phi) (base : Nat) (H : List (Option Blk)) (w : World) : Prop where
 agree : ∀ b o, F b = some o → w.heap[b]? = some o
 unused : ∀ id, H.length ≤ id → φ id = .unused
 blk : ∀ id b, H[id]? = some (some b) → BlkOk F φ base w id b
 sep : ∀ (i j : Nat) (bi bj : Blk) (x : Nat), H[i]? = some (some bi) → H[j]? = some (some bj) → (φ i).occ x → (φ j).occ x → i = j
 good : GoodF F
 pins : ∀ (j i : Nat) (l : Loc), H[j]? = some (some (Blk.pin i l)) → φ i = l ∧ l ≠ .unused
theorem RelH.occ_lt {F : Fz} {φ : Phi} {base : Nat} {H : List (Option Blk)} {w : World} (h : RelH F φ base H w) {id : Nat} {b : Blk} (hb : H[id]? = some (some b)) {x : Nat} (hx : (φ id).occ x) : x < w.heap.size := by
 obtain ⟨_, _, o, ho⟩ := (h.blk id b hb).occ hx
 exact (Array.getElem?_eq_some_iff.1 ho).1
structure Rel (F : Fz) (φ : Phi) (w0 : World) (st : St) (a : Act) (w : World) : Prop where
 heap : RelH F φ w0.heap.size st.h w
 size : a.tmps.size = st.n
 slots : ∀ i, RepV F φ (look st.s i) (a.tmps.getD i undef)
 defers : a.defers = []
 below : Below w0.heap.size w0 w
def absV : Value → AVal
 | .int k n => bif inb k n then .int k n else .junk
 | .bool b => .bool b
 | .string s => if s.data.toList.length ≤ maxLen then .str s.data.toList else .junk
 | .slice none 0 0 => .nil
 | _ => .junk
theorem absV_rep (F : Fz) (φ : Phi) (v : Value) : RepV F φ (absV v) v := by
 unfold absV
 split
 ·rename_i k n
  cases h : inb k n
  ·exact .junk _
  ·have := inb_iff.1 h; exact .int k n this.1 this.2
 ·exact .bool _
 ·split
  ·rename_i h; exact .str _ _ rfl h
  ·exact .junk _
 ·exact .nil
 ·exact .junk _
def opd (s : List (Nat × AVal)) : Operand → AVal
 | .tmp t => look s t
 | .const v => absV v
 | .func f => .func f []
 | .global _ => .junk
theorem opd_rep {F : Fz} {φ : Phi} {w0 : World} {st : St} {a : Act} {w : World} (h : Rel F φ w0 st a w) (x : Operand) : RepV F φ (opd st.s x) (a.eval x) := by
 cases x with
 | tmp t => exact h.slots t
 | const v => exact absV_rep F φ v
 | global g => exact .junk _
 | func f => exact .func f [] #[] rfl (by simp)
theorem Rel.put {F : Fz} {φ : Phi} {w0 : World} {st : St} {a : Act} {w : World} (h : Rel F φ w0 st a w) {d : Nat} {x : AVal} {v : Value} (hd : d < st.n) (hr : RepV F φ x v) :
  Rel F φ w0 { st with s := putL st.s d x } (a.put (some d) v) w := by
 refine ⟨h.heap, by simpa [Act.put] using h.size, fun i => ?_, h.defers, h.below⟩
 show RepV F φ (look (putL st.s d x) i) _
 rw [look_putL]
 have hsz := h.size
 by_cases hi : d = i
 ·subst hi
  simp only [if_true, Act.put]
  rw [Array.getD_eq_getD_getElem?, Array.getElem?_setIfInBounds_self_of_lt (by omega)]
  exact hr
 ·simp only [if_neg hi, Act.put]
  have := h.slots i
  rwa [Array.getD_eq_getD_getElem?, Array.getElem?_setIfInBounds_ne hi, ← Array.getD_eq_getD_getElem?]
theorem Rel.keep {F : Fz} {φ : Phi} {w0 : World} {st : St} {a : Act} {w : World} (h : Rel F φ w0 st a w) (K : List Nat) : Rel F φ w0 { st with s := keepL K st.s } a w := by
 refine ⟨h.heap, h.size, fun i => ?_, h.defers, h.below⟩
 rcases look_keepL K st.s i with e | e
 ·show RepV F φ (look (keepL K st.s) i) _; rw [e]; exact h.slots i
 ·show RepV F φ (look (keepL K st.s) i) _; rw [e]; exact .junk _
theorem agree_cell {F : Fz} {φ : Phi} {base : Nat} {H : List (Option Blk)} {w : World} (h : RelH F φ base H w) {a : Addr} {v : Value} (hc : cellF F a = some v) : w.cell? a = some v := by
 unfold cellF at hc
 cases hF : F a.block with
 | none => rw [hF] at hc; cases hc
 | some o =>
  rw [hF] at hc
  have := h.agree _ _ hF
  unfold World.cell?
  rw [this]
  exact hc
end Go.AX
set_option linter.unusedSimpArgs false
set_option linter.unusedVariables false
namespace Go.AX
open Go Go.RowKit
inductive TyD where
 | other
 | int (k : IntKind)
 | bool
 | str
 | slice (e : TypeId)
 | struct (fs : List (Nat × TypeId))
 | fn
structure TyRow where
 d : TyD
 sz : Nat
 by_ : Nat
 zero : Value
abbrev Tab := TypeId → TyRow
def TyRow.none : TyRow := ⟨.other, 0, 0, .tuple #[]⟩
def InfoOk (P : Program) (t : TypeId) (r : TyRow) : Prop := ∃ i, P.info? t = some i ∧ i.size = r.sz ∧ i.bytes = r.by_ ∧ i.zero = some r.zero
def RowOk (P : Program) (t : TypeId) (r : TyRow) : Prop :=
 match r.d with
 | .other => True
 | .int k => P.underlying t = some (.int k) ∧ InfoOk P t r ∧ r.sz = 1
 | .bool => P.underlying t = some .bool ∧ InfoOk P t r ∧ r.sz = 1
 | .str => P.underlying t = some .string ∧ InfoOk P t r ∧ r.sz = 1
 | .slice e => P.underlying t = some (.slice e) ∧ InfoOk P t r ∧ r.sz = 1
 | .struct fs => (∃ fields, P.underlying t = some (.struct fields) ∧ fields.toList.map (fun f => (f.offset, f.type)) = fs) ∧ InfoOk P t r
 | .fn => (∃ d, P.underlying t = some d ∧ ∀ w, (isAgg t).run P w = .ok false w) ∧ InfoOk P t r ∧ r.sz = 1
def TabOk (P : Program) (T : Tab) : Prop := ∀ t, RowOk P t (T t)
def isAggT (r : TyRow) : Bool := match r.d with | .struct _ => true | _ => false
def known (r : TyRow) : Bool := match r.d with | .other => false | _ => true
theorem known_run {P : Program} {T : Tab} (hT : TabOk P T) {t : TypeId} (hk : known (T t) = true) : InfoOk P t (T t) ∧ ∀ w, (isAgg t).run P w = .ok (isAggT (T t)) w := by
 have h := hT t
 unfold RowOk at h
 unfold known at hk
 unfold isAggT
 split at h
 ·rename_i hd; rw [hd] at hk; cases hk
 ·rename_i k hd; exact ⟨h.2.1, fun w => by simp [isAgg, run_underlying h.1, hd]⟩
 ·rename_i hd; exact ⟨h.2.1, fun w => by simp [isAgg, run_underlying h.1, hd]⟩
 ·rename_i hd; exact ⟨h.2.1, fun w => by simp [isAgg, run_underlying h.1, hd]⟩
 ·rename_i e hd; exact ⟨h.2.1, fun w => by simp [isAgg, run_underlying h.1, hd]⟩
 ·rename_i fs hd; obtain ⟨⟨f, hf, _⟩, hi⟩ := h; exact ⟨hi, fun w => by simp [isAgg, run_underlying hf, hd]⟩
 ·rename_i hd; obtain ⟨⟨_, _, h1⟩, h2, _⟩ := h; exact ⟨h2, fun w => by rw [hd]; exact h1 w⟩
theorem size_run {P : Program} {T : Tab} (hT : TabOk P T) {t : TypeId} (hk : known (T t) = true) (w : World) : (sizeOf t).run P w = .ok (T t).sz w := by
 obtain ⟨⟨i, hi, hs, _, _⟩, _⟩ := known_run hT hk
 simp [sizeOf, typeInfo, hi, hs]
theorem zero_run {P : Program} {T : Tab} (hT : TabOk P T) {t : TypeId} (hk : known (T t) = true) (w : World) : (zeroValue t).run P w = .ok (T t).zero w := by
 obtain ⟨⟨i, hi, _, _, hz⟩, _⟩ := known_run hT hk
 simp [zeroValue, typeInfo, hi, hz]
theorem slice_under {P : Program} {T : Tab} (hT : TabOk P T) {t e : TypeId} (h : (T t).d = .slice e) : P.underlying t = some (.slice e) := by
 have := hT t; unfold RowOk at this; rw [h] at this; exact this.1
theorem int_under {P : Program} {T : Tab} (hT : TabOk P T) {t : TypeId} {k : IntKind} (h : (T t).d = .int k) : P.underlying t = some (.int k) := by
 have := hT t; unfold RowOk at this; rw [h] at this; exact this.1
theorem str_under {P : Program} {T : Tab} (hT : TabOk P T) {t : TypeId} (h : (T t).d = .str) : P.underlying t = some .string := by
 have := hT t; unfold RowOk at this; rw [h] at this; exact this.1
theorem bool_under {P : Program} {T : Tab} (hT : TabOk P T) {t : TypeId} (h : (T t).d = .bool) : P.underlying t = some .bool := by
 have := hT t; unfold RowOk at this; rw [h] at this; exact this.1
theorem struct_under {P : Program} {T : Tab} (hT : TabOk P T) {t : TypeId} {fs : List (Nat × TypeId)} (h : (T t).d = .struct fs) : ∃ fields, P.underlying t = some (.struct fields) ∧ fields.toList.map (fun f => (f.offset, f.type)) = fs := by
 have := hT t; unfold RowOk at this; rw [h] at this; exact this.1
/-! ### what is under a guard -/
def sv : AVal → AVal | .opt _ v => v | x => x
def sc (pc : Bool) : AVal → Bool | .opt b _ => !pc || b | _ => true
theorem sv_rep {F : Fz} {φ : Phi} {x : AVal} {v : Value} (h : RepV F φ x v) (hs : sc true x = true) : RepV F φ (sv x) v := by
 cases h with
 | opt b x v h _ => exact h (by simpa [sc] using hs)
 | _ => (simp only [sv]; constructor <;> assumption)
/-! ### numbers -/
def shlOk (k : IntKind) (a b : Int) : Bool := decide (0 ≤ b) && inb k (a * 2 ^ b.toNat) && decide (b.toNat ≤ k.bits)
def bin2 (op : BinOp) : AVal → AVal → Bool × AVal
 | .int k a, .int k' b =>
  match op with
  | .add => (decide (k = k') && inb k (a + b), .int k (a + b))
  | .sub => (decide (k = k') && inb k (a - b), .int k (a - b))
  | .mul => (decide (k = k') && inb k (a * b), .int k (a * b))
  | .quo => (decide (k = k') && decide (b ≠ 0) && inb k (a.tdiv b), .int k (a.tdiv b))
  | .rem => (decide (k = k') && decide (b ≠ 0), .int k (a.tmod b))
  | .and => (decide (k = k'), .int k (iand a b))
  | .or => (decide (k = k'), .int k (ior a b))
  | .xor => (decide (k = k'), .int k (ixor a b))
  | .andNot => (decide (k = k'), .int k (iandnot a b))
  | .shl => (shlOk k a b, .int k (a * 2 ^ b.toNat))
  | .shr => (decide (0 ≤ b), .int k (a / 2 ^ b.toNat))
  | .eql => (decide (k = k'), .bool (decide (a = b)))
  | .neq => (decide (k = k'), .bool (!decide (a = b)))
  | .lss => (decide (k = k'), .bool (decide (a < b)))
  | .leq => (decide (k = k'), .bool (decide (a ≤ b)))
  | .gtr => (decide (k = k'), .bool (decide (b < a)))
  | .geq => (decide (k = k'), .bool (decide (b ≤ a)))
 | _, _ => (false, .junk)
theorem tdiv_fdiv (a : Int) (n : Nat) : a.fdiv (2 ^ n) = a / 2 ^ n := Int.fdiv_eq_ediv_of_nonneg _ (Int.le_of_lt (Int.pow_pos (by omega)))
theorem shr_min {k : IntKind} {a : Int} (h1 : lo k ≤ a) (h2 : a ≤ hi k) (n : Nat) : a / 2 ^ (min n k.bits) = a / 2 ^ n := by
 by_cases h : n ≤ k.bits
 ·rw [Nat.min_eq_left h]
 ·have hb : k.bits ≤ n := by omega
  rw [Nat.min_eq_right hb]
  have hp : (2 : Int) ^ k.bits ≤ 2 ^ n := by exact_mod_cast Nat.pow_le_pow_right (show 0 < 2 by omega) hb
  have hr : -(2 ^ k.bits : Int) ≤ a ∧ a < 2 ^ k.bits := by cases k <;> simp [lo, hi, IntKind.bits] at * <;> omega
  rcases Int.lt_or_le a 0 with h0 | h0
  ·have e1 : ∀ m : Int, 0 < m → -m ≤ a → a / m = -1 := fun m hm hl => by
    have := Int.ediv_lt_of_lt_mul hm (show a < 0 * m by omega)
    have := Int.le_ediv_of_mul_le hm (show -1 * m ≤ a by omega)
    omega
   rw [e1 _ (Int.pow_pos (by omega)) hr.1, e1 _ (Int.pow_pos (by omega)) (by omega)]
  ·rw [Int.ediv_eq_zero_of_lt h0 hr.2, Int.ediv_eq_zero_of_lt h0 (by omega)]
theorem ediv_in {k : IntKind} {a : Int} (h1 : lo k ≤ a) (h2 : a ≤ hi k) (n : Nat) : lo k ≤ a / 2 ^ n ∧ a / 2 ^ n ≤ hi k := by
 have hp : (0 : Int) < 2 ^ n := Int.pow_pos (by omega)
 have hp1 : (1 : Int) ≤ 2 ^ n := hp
 have hlo : lo k ≤ 0 := by cases k <;> simp [lo]
 have hhi : 0 ≤ hi k := by cases k <;> simp [hi]
 rcases Int.lt_or_le a 0 with h0 | h0
 ·refine ⟨Int.le_trans h1 (Int.le_ediv_of_mul_le hp ?_), ?_⟩
  ·have := Int.mul_le_mul_of_nonpos_left (show a ≤ 0 by omega) hp1; simpa using this
  ·have := Int.ediv_lt_of_lt_mul hp (show a < 0 * 2 ^ n by omega); omega
 ·exact ⟨Int.le_trans hlo (Int.ediv_nonneg h0 (Int.le_of_lt hp)), Int.le_trans (Int.ediv_le_self _ h0) h2⟩
theorem emod_le' {m : Int} (hm : 0 ≤ m) (b : Int) : m % b ≤ m := by
 obtain ⟨M, rfl⟩ := Int.eq_ofNat_of_zero_le hm
 have : ∀ c : Nat, (M : Int) % (c : Int) ≤ M := fun c => by rw [← Int.natCast_emod]; have := Nat.mod_le M c; omega
 rcases Int.natAbs_eq b with h | h
 ·rw [h]; exact this _
 ·rw [h, Int.emod_neg]; exact this _
theorem tmod_in {k : IntKind} {a b : Int} (h1 : lo k ≤ a) (h2 : a ≤ hi k) : lo k ≤ a.tmod b ∧ a.tmod b ≤ hi k := by
 have hlo : lo k ≤ 0 := by cases k <;> simp [lo]
 have hhi : 0 ≤ hi k := by cases k <;> simp [hi]
 rcases Int.lt_or_le a 0 with h0 | h0
 ·obtain ⟨m, hm⟩ : ∃ m, a = -m ∧ 0 ≤ m := ⟨-a, by omega, by omega⟩
  obtain ⟨rfl, hm⟩ := hm
  rw [Int.neg_tmod]
  have := Int.tmod_nonneg b hm
  have : m.tmod b ≤ m := by
   rw [Int.tmod_eq_emod_of_nonneg hm]; exact emod_le' hm b
  omega
 ·have := Int.tmod_nonneg b h0
  have : a.tmod b ≤ a := by rw [Int.tmod_eq_emod_of_nonneg h0]; exact emod_le' h0 b
  omega
end Go.AX
set_option linter.unusedSimpArgs false
set_option linter.unusedVariables false
namespace Go.AX
open Go Go.RowKit
def isB : AVal → Bool | .bool _ => true | _ => false
def bv : AVal → Bool | .bool b => b | _ => false
def bin3 (d : TyD) (op : BinOp) (x y : AVal) : Bool × AVal :=
 match x, y with
 | .bool a, .bool b => match op with
  | .eql => ((match d with | .bool => true | _ => false), .bool (a == b))
  | .neq => ((match d with | .bool => true | _ => false), .bool (!(a == b)))
  | _ => (false, .junk)
 | .str a, .str b => match op with
  | .eql => (true, .bool (decide (a = b)))
  | .neq => (true, .bool (!decide (a = b)))
  | _ => (false, .junk)
 | x, y => bin2 op x y
def un1 (op : UnOp) : AVal → Bool × AVal
 | .int k n => match op with
  | .neg => (inb k (-n), .int k (-n))
  | .xor => (k.signed, .int k (inot n))
  | _ => (false, .junk)
 | .bool b => match op with
  | .not => (true, .bool (!b))
  | _ => (false, .junk)
 | _ => (false, .junk)
def hdA : List AVal → Bool × AVal | x :: _ => (true, x) | [] => (false, .junk)
def ldC (r : TyRow) (e : List AVal) : Bool × AVal :=
 match isAggT r with
 | true => (decide (r.sz ≤ e.length), .agg (e.take r.sz))
 | false => hdA e
def getB (H : List (Option Blk)) (id : Nat) : Option Blk := match H[id]? with | some (some b) => some b | _ => none
def idxA (r : TyRow) (H : List (Option Blk)) (x i : AVal) : Bool × AVal :=
 match x, i with
 | .ints k xs, .int _ i => (decide (r.sz = 1) && (decide (0 ≤ i) && decide (i < xs.length)), .intp k (xs.getD i.toNat 0))
 | .imm sz es, .int _ i => (decide (r.sz = sz) && (decide (0 ≤ i) && decide (i < es.length)), .immp (es.getD i.toNat []))
 | .fn sz n f, .int _ i => (decide (r.sz = sz) && (decide (0 ≤ i) && decide (i < (n : Int))), .immp (f i.toNat))
 | .own id n, .int _ i => (match getB H id with
   | some b => decide (r.sz = b.sz) && (decide (0 ≤ i) && decide (i < n))
   | none => false, .ptr id i.toNat 0)
 | .row id a n, .int _ i => (decide (r.sz = 1) && (decide (0 ≤ i) && decide (i < n)), .rowp id a i.toNat)
 | _, _ => (false, .junk)
/-- A list's row, or none. -/
def rowV (rid : Nat) (o : Option Nat) (l : Nat) : AVal := match o with | some a => .row rid a l | none => .nil
def loadA (r : TyRow) (H : List (Option Blk)) : AVal → Bool × AVal
 | .intp k n => (!isAggT r, .int k n)
 | .immp e => ldC r e
 | .ptr id i j => match getB H id with
  | some (.ints _ k xs) => (!isAggT r && decide (j = 0) && decide (i < xs.length), .int k (xs.getD i 0))
  | some (.gen _ _ es) => ldC r ((es.getD i []).drop j)
  | some (.outs _ rid n f len) => (!isAggT r && decide (j = 0) && decide (i < n), rowV rid (f i) (len i))
  | _ => (false, .junk)
 | .rowp id i j => match getB H id with
  | some (.rows _ k X) => (!isAggT r && decide (i < X.length) && decide (j < (X.getD i []).length), .int k ((X.getD i []).getD j 0))
  | _ => (false, .junk)
 | _ => (false, .junk)
def fieldA (T : Tab) (d : TyD) (f : Nat) : AVal → Bool × AVal
 | .agg l => match d with
  | .struct fs => match fs[f]? with
   | some (off, ft) => match isAggT (T ft) with
    | true => (known (T ft) && decide (off + (T ft).sz ≤ l.length), .agg ((l.drop off).take (T ft).sz))
    | false => (known (T ft) && decide (off < l.length), l.getD off .junk)
   | none => (false, .junk)
  | _ => (false, .junk)
 | _ => (false, .junk)
def fieldAddrA (T : Tab) (d : TyD) (f : Nat) (x : AVal) : Bool × AVal :=
 match d with
 | .struct fs => match fs[f]? with
  | some (off, ft) => match x with
   | .immp e => (known (T ft) && !decide ((T ft).sz = 0), .immp (e.drop off))
   | .ptr id i j => (known (T ft) && !decide ((T ft).sz = 0), .ptr id i (j + off))
   | _ => (false, .junk)
  | none => (false, .junk)
 | _ => (false, .junk)
def lenA : AVal → Bool × Nat
 | .ints _ xs => (true, xs.length)
 | .imm _ es => (true, es.length)
 | .fn _ n _ => (true, n)
 | .own _ n => (true, n)
 | .row _ _ n => (true, n)
 | .nil => (true, 0)
 | .str s => (true, s.length)
 | _ => (false, 0)
def lenTy : TyD → AVal → Bool
 | .slice _, .str _ => false
 | .slice _, _ => true
 | .str, .str _ => true
 | _, _ => false
def extA (i : Nat) : AVal → Bool × AVal
 | .tup l => (decide (i < l.length), l.getD i .junk)
 | _ => (false, .junk)
def strA (x i : AVal) : Bool × AVal :=
 match x, i with
 | .str s, .int _ i => (decide (0 ≤ i) && decide (i < s.length), .int .u8 (s.getD i.toNat 0).toNat)
 | _, _ => (false, .junk)
/-- A bound of a cut: left out: the default. -/
def bndA (d : Nat) : Option AVal → Bool × Nat
 | none => (true, d)
 | some (.int _ i) => (decide (0 ≤ i), i.toNat)
 | some _ => (false, 0)
def sliceA (x : AVal) (lo hi : Option AVal) : Bool × AVal :=
 match x with
 | .ints k xs => ((bndA 0 lo).1 && (bndA xs.length hi).1 && decide ((bndA 0 lo).2 ≤ (bndA xs.length hi).2) && decide ((bndA xs.length hi).2 ≤ xs.length), .ints k ((xs.take (bndA xs.length hi).2).drop (bndA 0 lo).2))
 | .own id n => (match lo with
   | none => (bndA n hi).1 && decide ((bndA n hi).2 ≤ n)
   | some _ => false, .own id (bndA n hi).2)
 | _ => (false, .junk)
def maxA (m : Bool) : List AVal → Bool × Int
 | [.int .i64 a, .int .i64 b] => (true, bif m then max a b else min a b)
 | _ => (false, 0)
/-- string(bytes), the bytes the call's own. -/
def byteStr (T : Tab) (H : List (Option Blk)) (s : TypeId) (x : AVal) : Bool × AVal :=
 match (T s).d with
 | .slice e => match (T e).d with
  | .int .u8 => match x with
   | .nil => (true, .str [])
   | .own id n => match getB H id with
    | some (.ints _ .u8 xs) => (decide (n ≤ xs.length), .str ((xs.take n).map fun n => UInt8.ofNat n.toNat))
    | _ => (false, .junk)
   | _ => (false, .junk)
  | _ => (false, .junk)
 | _ => (false, .junk)
/-- One cell. -/
def one1 : AVal → Bool
 | .int _ _ | .bool _ | .str _ | .nil | .imm _ _ | .immp _ | .own _ _ | .ptr _ _ _ | .func _ _ | .ints _ _ | .intp _ _ | .fn _ _ _ | .ownN _ _ | .abs _ _ _ | .mp _ | .row _ _ _ | .rowp _ _ _ => true
 | _ => false
/-- A value's cells. -/
def cellsA : AVal → Option (List AVal)
 | .agg l => some l
 | x => if one1 x then some [x] else none
def setAt (off : Nat) (l xs : List AVal) : List AVal := l.take off ++ xs ++ l.drop (off + xs.length)
/-- The parts of a literal, put over the zero value's cells. -/
def fillA (T : Tab) (fs : List (Nat × TypeId)) (l : List AVal) : List (Nat × AVal) → Bool × List AVal
 | [] => (true, l)
 | (i, x) :: r => match fs[i]?, cellsA x with
  | some (off, ft), some xs => (decide (xs.length = (T ft).sz) && decide (off + xs.length ≤ l.length) && (fillA T fs (setAt off l xs) r).1, (fillA T fs (setAt off l xs) r).2)
  | _, _ => (false, [])
def buildA (T : Tab) (r : TyRow) (parts : List (Nat × AVal)) : Bool × AVal :=
 match r.d, r.zero with
 | .struct fs, .agg cs => ((fs.all fun x => known (T x.2)) && (cs.toList.all fun x => x.oneCell') && (fillA T fs (cs.toList.map absV) parts).1, .agg (fillA T fs (cs.toList.map absV) parts).2)
 | _, _ => (false, .junk)
def ptrA : AVal → Bool
 | .ptr _ _ _ | .immp _ | .intp _ _ | .rowp _ _ _ => true
 | _ => false
def pv (T : Tab) (H : List (Option Blk)) (pc : Bool) (ev : Operand → AVal) : Op → Bool × AVal
 | .move x | .assign x => (sc pc (ev x), sv (ev x))
 | .pick c x y => (sc pc (ev c) && isB (sv (ev c)) && sc (pc && bv (sv (ev c))) (ev x) && isB (sv (ev x)) && sc (pc && !bv (sv (ev c))) (ev y) && isB (sv (ev y)),
   .bool (bif bv (sv (ev c)) then bv (sv (ev x)) else bv (sv (ev y))))
 | .binOp op t x y _ => (sc pc (ev x) && sc pc (ev y) && (!pc || (bin3 (T t).d op (sv (ev x)) (sv (ev y))).1), (bin3 (T t).d op (sv (ev x)) (sv (ev y))).2)
 | .unOp op _ x => (sc pc (ev x) && (!pc || (un1 op (sv (ev x))).1), (un1 op (sv (ev x))).2)
 | .convert s d x => match (T d).d, sv (ev x) with
  | .int k, .int _ n => (sc pc (ev x) && known (T s) && (!pc || inb k n), .int k n)
  | .str, y => (sc pc (ev x) && (!pc || (byteStr T H s y).1), (byteStr T H s y).2)
  | _, _ => (false, .junk)
 | .extract x i => (sc pc (ev x) && (!pc || (extA i (sv (ev x))).1), (extA i (sv (ev x))).2)
 | .nilCheck x => (sc pc (ev x) && (!pc || ptrA (sv (ev x))), sv (ev x))
 | .indexAddr t x i => match (T t).d with
  | .slice e => (known (T e) && sc pc (ev x) && sc pc (ev i) && (!pc || (idxA (T e) H (sv (ev x)) (sv (ev i))).1), (idxA (T e) H (sv (ev x)) (sv (ev i))).2)
  | _ => (false, .junk)
 | .index t x i => match (T t).d with
  | .str => (sc pc (ev x) && sc pc (ev i) && (!pc || (strA (sv (ev x)) (sv (ev i))).1), (strA (sv (ev x)) (sv (ev i))).2)
  | _ => (false, .junk)
 | .load t x => (known (T t) && sc pc (ev x) && (!pc || (loadA (T t) H (sv (ev x))).1), (loadA (T t) H (sv (ev x))).2)
 | .field t x f => (sc pc (ev x) && (!pc || (fieldA T (T t).d f (sv (ev x))).1), (fieldA T (T t).d f (sv (ev x))).2)
 | .build t ps => ((ps.toList.all fun p => sc pc (ev p.2)) && (!pc || (buildA T (T t) (ps.toList.map fun p => (p.1, sv (ev p.2)))).1), (buildA T (T t) (ps.toList.map fun p => (p.1, sv (ev p.2)))).2)
 | .fieldAddr t x f => (sc pc (ev x) && (!pc || (fieldAddrA T (T t).d f (sv (ev x))).1), (fieldAddrA T (T t).d f (sv (ev x))).2)
 | .makeFunc (.func f) first caps => (decide (first.size = 0) && caps.toList.all fun x => sc pc (ev x), .func f (caps.toList.map fun x => sv (ev x)))
 | .slice t x lo hi none => match (T t).d with
  | .slice e => (known (T e) && (match sv (ev x) with | .ints _ _ => decide ((T e).sz = 1) | _ => true) && sc pc (ev x) && lo.all (fun x => sc pc (ev x)) && hi.all (fun x => sc pc (ev x)) && (!pc || (sliceA (sv (ev x)) (lo.map fun x => sv (ev x)) (hi.map fun x => sv (ev x))).1),
    (sliceA (sv (ev x)) (lo.map fun x => sv (ev x)) (hi.map fun x => sv (ev x))).2)
  | _ => (false, .junk)
 | .call c => match c.callee with
  | .builtin .len => match c.args.toList, c.argTypes.toList with
   | [x], [t] => (lenTy (T t).d (sv (ev x)) && sc pc (ev x) && (!pc || (lenA (sv (ev x))).1), .int .i64 (lenA (sv (ev x))).2)
   | _, _ => (false, .junk)
  | .builtin .max => (c.args.toList.all (fun x => sc pc (ev x)) && (maxA true (c.args.toList.map fun x => sv (ev x))).1, .int .i64 (maxA true (c.args.toList.map fun x => sv (ev x))).2)
  | .builtin .min => (c.args.toList.all (fun x => sc pc (ev x)) && (maxA false (c.args.toList.map fun x => sv (ev x))).1, .int .i64 (maxA false (c.args.toList.map fun x => sv (ev x))).2)
  | _ => (false, .junk)
 | _ => (false, .junk)
section
variable {P : Program} {T : Tab} {F : Fz} {φ : Phi} {w0 : World} {st : St} {a : Act} {w : World}
theorem ev_rep (h : Rel F φ w0 st a w) {x : Operand} (hs : sc true (opd st.s x) = true) : RepV F φ (sv (opd st.s x)) (a.eval x) := sv_rep (opd_rep h x) hs
/-- What is asked of a value: the operation's run. -/
def Yields (P : Program) (F : Fz) (φ : Phi) (w : World) (s : Sem Value) (x : AVal) : Prop := ∃ u, (∀ w', Below w.heap.size w w' → s.run P w' = .ok u w') ∧ RepV F φ x u
theorem RelH.belowR {base : Nat} {H : List (Option Blk)} (h : RelH F φ base H w) {w' : World} (hb : Below w.heap.size w w') : RelH F φ base H w' := by
 have lt : ∀ {b : Nat} {o : Obj}, w.heap[b]? = some o → b < w.heap.size := fun h => (Array.getElem?_eq_some_iff.1 h).1
 refine ⟨fun b o hF => (hb.block b (lt (h.agree b o hF))).trans (h.agree b o hF), h.unused, fun id b hid => ?_, h.sep, h.good, h.pins⟩
 rcases h.blk id b hid with q | ⟨g, cap, cur, q1, q2, q3, q4, q5⟩ | hX
 ·exact .inl q
 ·exact .inr (.inl ⟨g, cap, cur, q1, q2, q3, (hb.block g (lt q4)).trans q4, q5⟩)
 ·exact .inr (.inr (hX.le rfl (fun x hx => ⟨(hX.occ hx).1, (hX.occ hx).2.1⟩) fun x hx => hb.block x (h.occ_lt hid hx)))
theorem bin2_ok {op : BinOp} {t : TypeId} {x y : AVal} {u v : Value} (hx : RepV F φ x u) (hy : RepV F φ y v) (hc : (bin2 op x y).1 = true) : Yields P F φ w (binOp op t u v) (bin2 op x y).2 := by
 unfold bin2 at hc ⊢
 split at hc
 ·rename_i k a k' b
  cases hx with | int _ _ a1 a2 => ?_
  cases hy with | int _ _ b1 b2 => ?_
  cases op <;> simp only [shlOk, Bool.and_eq_true, decide_eq_true_eq, inb_iff] at hc ⊢
  all_goals try (obtain ⟨rfl, hc⟩ := hc)
  ·exact ⟨.int k (a + b), fun w _ => by simp [Op.intArith, binOp, wrap_in hc.1 hc.2], .int _ _ hc.1 hc.2⟩
  ·exact ⟨.int k (a - b), fun w _ => by simp [Op.intArith, binOp, wrap_in hc.1 hc.2], .int _ _ hc.1 hc.2⟩
  ·exact ⟨.int k (a * b), fun w _ => by simp [Op.intArith, binOp, wrap_in hc.1 hc.2], .int _ _ hc.1 hc.2⟩
  ·obtain ⟨⟨rfl, hb⟩, hc⟩ := hc
   exact ⟨.int k (a.tdiv b), fun w _ => by simp [Op.intDiv, binOp, hb, wrap_in hc.1 hc.2], .int _ _ hc.1 hc.2⟩
  ·have := tmod_in (b := b) a1 a2
   exact ⟨.int k (a.tmod b), fun w _ => by simp [Op.intDiv, binOp, hc], .int _ _ this.1 this.2⟩
  ·exact ⟨_, fun w _ => by rw [binOp_and]; exact intBits_eq P w .and k a b (by simp) a1 a2 b1 b2, .int _ _ (bitI_in .and k a b a1 a2 b1 b2).1 (bitI_in .and k a b a1 a2 b1 b2).2⟩
  ·exact ⟨_, fun w _ => by rw [binOp_or]; exact intBits_eq P w .or k a b (by simp) a1 a2 b1 b2, .int _ _ (bitI_in .or k a b a1 a2 b1 b2).1 (bitI_in .or k a b a1 a2 b1 b2).2⟩
  ·exact ⟨_, fun w _ => by rw [binOp_xor]; exact intBits_eq P w .xor k a b (by simp) a1 a2 b1 b2, .int _ _ (bitI_in .xor k a b a1 a2 b1 b2).1 (bitI_in .xor k a b a1 a2 b1 b2).2⟩
  ·obtain ⟨⟨h1, h2⟩, h3⟩ := hc
   exact ⟨.int k (a * 2 ^ b.toNat), fun w _ => by simp [binOp, Op.shift, show ¬ b < 0 by omega, Nat.min_eq_left h3, wrap_in h2.1 h2.2], .int _ _ h2.1 h2.2⟩
  ·have := ediv_in a1 a2 b.toNat
   exact ⟨.int k (a / 2 ^ b.toNat), fun w _ => by simp [binOp, Op.shift, show ¬ b < 0 by omega, tdiv_fdiv, shr_min a1 a2], .int _ _ this.1 this.2⟩
  ·exact ⟨_, fun w _ => by rw [binOp_andNot]; exact intBits_eq P w .andNot k a b (by simp) a1 a2 b1 b2, .int _ _ (bitI_in .andNot k a b a1 a2 b1 b2).1 (bitI_in .andNot k a b a1 a2 b1 b2).2⟩
  ·exact ⟨_, fun w _ => by rw [binOp_eql]; rfl, by rw [show (a == b) = decide (a = b) from rfl]; exact .bool _⟩
  ·exact ⟨_, fun w _ => by rw [binOp_neq]; rfl, by rw [show (a != b) = !decide (a = b) from rfl]; exact .bool _⟩
  ·exact ⟨_, fun w _ => by rw [binOp_lss]; rfl, .bool _⟩
  ·exact ⟨_, fun w _ => by rw [binOp_leq]; rfl, .bool _⟩
  ·exact ⟨_, fun w _ => by rw [binOp_gtr]; rfl, .bool _⟩
  ·exact ⟨_, fun w _ => by rw [binOp_geq]; rfl, .bool _⟩
 ·cases hc
theorem eqt_bytes (s : ByteArray) : s.toList = s.data.toList := ByteArray.toList_eq s
theorem run_equalIn_bool (d : Nat) {t : TypeId} (b c : Bool) (h : P.underlying t = some .bool) : (Op.equalIn (d + 1) t (.bool b) (.bool c)).run P w = .ok (b == c) w := by
 simp [Op.equalIn, run_underlying h]
theorem run_eql_bool {t : TypeId} (b c : Bool) (h : P.underlying t = some .bool) : (binOp .eql t (.bool b) (.bool c)).run P w = .ok (.bool (b == c)) w := by
 simp only [binOp]
 simp [Op.equal, Op.maxDepth, run_equalIn_bool 9999 b c h]
theorem run_neq_bool {t : TypeId} (b c : Bool) (h : P.underlying t = some .bool) : (binOp .neq t (.bool b) (.bool c)).run P w = .ok (.bool (!(b == c))) w := by
 simp only [binOp]
 simp [Op.equal, Op.maxDepth, run_equalIn_bool 9999 b c h]
theorem bin3_ok (hT : TabOk P T) {op : BinOp} {t : TypeId} {x y : AVal} {u v : Value} (hx : RepV F φ x u) (hy : RepV F φ y v) (hc : (bin3 (T t).d op x y).1 = true) : Yields P F φ w (binOp op t u v) (bin3 (T t).d op x y).2 := by
 unfold bin3 at hc ⊢
 split at hc
 ·rename_i b c
  cases hx; cases hy
  have hd : ∀ {q : Bool}, (match (T t).d with | .bool => true | _ => false) = q → q = true → P.underlying t = some .bool := by
   intro q h1 h2; subst h2
   split at h1
   ·rename_i hd; exact bool_under hT hd
   ·cases h1
  cases op <;> simp only [Bool.false_eq_true] at hc ⊢
  ·exact ⟨.bool (b == c), fun w _ => run_eql_bool b c (hd rfl hc), .bool _⟩
  ·exact ⟨.bool (!(b == c)), fun w _ => run_neq_bool b c (hd rfl hc), .bool _⟩
 ·rename_i b c
  cases hx with | str s1 _ h1 _ => ?_
  cases hy with | str s2 _ h2 _ => ?_
  subst h1 h2
  have e : (s1.data.toList == s2.data.toList) = decide (s1.data.toList = s2.data.toList) := by rw [Bool.eq_iff_iff]; simp
  cases op <;> simp only [Bool.false_eq_true] at hc ⊢
  ·exact ⟨.bool (decide (s1.data.toList = s2.data.toList)), fun w _ => by simp only [binOp, Op.stringOp, eqt_bytes, Sem.run_pure, e], .bool _⟩
  ·exact ⟨.bool (!decide (s1.data.toList = s2.data.toList)), fun w _ => by simp only [binOp, Op.stringOp, eqt_bytes, Sem.run_pure, e], .bool _⟩
 ·exact bin2_ok hx hy hc
theorem un1_ok {op : UnOp} {x : AVal} {u : Value} (hx : RepV F φ x u) (hc : (un1 op x).1 = true) : Yields P F φ w (Op.unary op u) (un1 op x).2 := by
 unfold un1 at hc ⊢
 split at hc
 ·rename_i k n
  cases hx with | int _ _ a1 a2 => ?_
  cases op <;> simp only [Bool.false_eq_true, inb_iff] at hc ⊢
  ·exact ⟨.int k (-n), fun w _ => by simp [Op.unary, Op.intArith, wrap_in hc.1 hc.2], .int _ _ hc.1 hc.2⟩
  ·have hk : lo k ≤ -1 ∧ -1 ≤ hi k := by cases k <;> simp [lo, hi, IntKind.signed] at *
   have h2 := bitI_in .xor k (-1) n hk.1 hk.2 a1 a2
   have e : bitI .xor (-1) n = inot n := by
    show ior (iand (-1) (inot n)) (iand n (inot (-1))) = _
    have e1 : ∀ m : Int, iand (-1) m = m := fun m => by
     cases m with
     | ofNat a => show Int.ofNat (a ^^^ (0 &&& a)) = _; simp
     | negSucc a => show Int.negSucc (0 ||| a) = _; simp
    have e2 : ∀ m : Int, iand m 0 = 0 := fun m => by
     cases m with
     | ofNat a => show Int.ofNat (a &&& 0) = _; simp
     | negSucc a => show Int.ofNat (0 ^^^ (a &&& 0)) = _; simp
    have e3 : ∀ m : Int, ior m 0 = m := fun m => by
     show inot (iand (inot m) (-1)) = m
     have e4 : ∀ m : Int, iand m (-1) = m := fun m => by
      cases m with
      | ofNat a => show Int.ofNat (a ^^^ (a &&& 0)) = _; simp
      | negSucc a => show Int.negSucc (a ||| 0) = _; simp
     rw [e4]; unfold inot; omega
    rw [e1, show inot (-1) = 0 from rfl, e2, e3]
   have h1 := fun w => intBits_eq P w .xor k (-1) n (by simp) hk.1 hk.2 a1 a2
   simp only [e] at h1 h2
   exact ⟨.int k (inot n), fun w _ => by simp only [Op.unary, hc, if_true]; exact h1 w, .int _ _ h2.1 h2.2⟩
 ·cases hx
  cases op <;> simp only [Bool.false_eq_true] at hc ⊢
  exact ⟨_, fun w _ => by simp [Op.unary], .bool _⟩
 ·cases hc
theorem int_inv {k : IntKind} {n : Int} {v : Value} (h : RepV F φ (.int k n) v) : v = .int k n ∧ lo k ≤ n ∧ n ≤ hi k := by cases h with | int _ _ a b => exact ⟨rfl, a, b⟩
theorem bool_inv {b : Bool} {v : Value} (h : RepV F φ (.bool b) v) : v = .bool b := by cases h; rfl
theorem idx_run {t e : TypeId} (hT : TabOk P T) (hd : (T t).d = .slice e) (hk : known (T e) = true) (ad : Addr) (n c : Nat) (k : IntKind) (i : Int) (h0 : 0 ≤ i) (h1 : i < n) (w : World) :
  (Instr.indexAt t (.slice (some ad) n c) (.int k i)).run P w = .ok (.pointer (some (ad.add (i.toNat * (T e).sz)))) w := by
 simp [Instr.indexAt, run_underlying (slice_under hT hd), asIntOf, h0, h1, size_run hT hk]
theorem imm_idx {sz : Nat} {es : List (List AVal)} {v : Value} (h : RepV F φ (.imm sz es) v) {i : Int} (h0 : 0 ≤ i) (h1 : i < es.length) :
  ∃ ad c, v = .slice (some ad) es.length c ∧ RepV F φ (.immp (es.getD i.toNat [])) (.pointer (some (ad.add (i.toNat * sz)))) := by
 cases h with
 | imm _ _ A n c u e1 e2 e3 e4 e5 e6 e7 =>
  subst e1
  have hi : i.toNat < es.length := by omega
  cases A with
  | none => exact absurd rfl (e5 (by omega))
  | some ad =>
   refine ⟨ad, c, rfl, ?_⟩
   have hg : es[i.toNat]? = some (es.getD i.toNat []) := by rw [List.getD_eq_getElem?_getD, List.getElem?_eq_getElem hi]; rfl
   refine .immp _ _ (fun j => u i.toNat j) (fun j x hx => ?_) (fun j x hx => e7 _ _ j x hg hx)
   have := e6 ad i.toNat _ j x rfl hg hx
   have e : (ad.add (i.toNat * sz)).add j = ad.add (i.toNat * sz + j) := by
    unfold Addr.add
    by_cases ha : i.toNat * sz = 0 <;> by_cases hb : j = 0 <;> simp [ha, hb, Nat.add_assoc]
   rw [e]; exact this
theorem idxA_ok {t e : TypeId} (hT : TabOk P T) (h : RelH F φ w0.heap.size st.h w) (hd : (T t).d = .slice e) (hk : known (T e) = true) {x i : AVal} {u v : Value} (hx : RepV F φ x u) (hi : RepV F φ i v)
  (hc : (idxA (T e) st.h x i).1 = true) : Yields P F φ w (Instr.indexAt t u v) (idxA (T e) st.h x i).2 := by
 unfold idxA at hc ⊢
 split at hc
 ·rename_i k xs k' i
  simp only [Bool.and_eq_true, decide_eq_true_eq] at hc
  obtain ⟨hs, h0, h1⟩ := hc
  obtain ⟨rfl, _⟩ := int_inv hi
  cases hx with | ints _ _ _ hx => ?_
  obtain ⟨ad, c, rfl, hr⟩ := imm_idx hx h0 (by simpa [intEs] using h1)
  have hlt : i.toNat < xs.length := by omega
  refine ⟨_, fun w _ => by rw [idx_run hT hd hk _ _ _ _ _ h0 (by simpa [intEs] using h1)], ?_⟩
  rw [hs]
  have : (intEs k xs).getD i.toNat [] = [.int k (xs.getD i.toNat 0)] := by
   simp [intEs, List.getD_eq_getElem?_getD, List.getElem?_eq_getElem hlt]
  rw [this] at hr
  exact .intp _ _ _ hr
 ·rename_i sz es k' i
  simp only [Bool.and_eq_true, decide_eq_true_eq] at hc
  obtain ⟨hs, h0, h1⟩ := hc
  obtain ⟨rfl, _⟩ := int_inv hi
  obtain ⟨ad, c, rfl, hr⟩ := imm_idx hx h0 h1
  exact ⟨_, fun w _ => by rw [idx_run hT hd hk _ _ _ _ _ h0 h1], by rw [hs]; exact hr⟩
 ·rename_i sz n f k' i
  simp only [Bool.and_eq_true, decide_eq_true_eq] at hc
  obtain ⟨hs, h0, h1⟩ := hc
  obtain ⟨rfl, _⟩ := int_inv hi
  cases hx with | fn _ _ _ _ hx => ?_
  obtain ⟨ad, c, rfl, hr⟩ := imm_idx hx h0 (by simpa [fnEs] using h1)
  have hlt : i.toNat < n := by omega
  refine ⟨_, fun w _ => by rw [idx_run hT hd hk _ _ _ _ _ h0 (by simpa [fnEs] using h1)], ?_⟩
  rw [hs]
  have : (fnEs n f).getD i.toNat [] = f i.toNat := by simp [fnEs, List.getD_eq_getElem?_getD, hlt]
  rw [this] at hr
  exact hr
 ·rename_i id n k' i
  split at hc
  ·rename_i b hb
   simp only [Bool.and_eq_true, decide_eq_true_eq] at hc
   obtain ⟨hs, h0, h1⟩ := hc
   obtain ⟨rfl, _⟩ := int_inv hi
   cases hx with
   | own _ _ g cap sz et h2 h3 _ =>
    have hb' : st.h[id]? = some (some b) := by
     unfold getB at hb
     split at hb
     ·rename_i b' hb'; rw [hb']; simpa using hb
     ·cases hb
    rcases (h.blk id b hb').atC h2 with ⟨h4, _⟩ | ⟨g', cap', cur, h4, _⟩
    ·rw [h2] at h4; cases h4
    ·rw [h2] at h4
     injection h4 with e1 e2 e3 e4
     refine ⟨_, fun w _ => by rw [idx_run hT hd hk _ _ _ _ _ h0 h1], ?_⟩
     have : (⟨g, 0, none⟩ : Addr).add (i.toNat * (T e).sz) = ⟨g, i.toNat * sz + 0, none⟩ := by rw [Addr.add_lit, hs, e3]; simp
     rw [this]
     exact .ptr id i.toNat 0 g cap sz et h2
   | ownNil _ h2 => omega
  ·cases hc
 ·rename_i id a n k i
  simp only [Bool.and_eq_true, decide_eq_true_eq] at hc
  obtain ⟨hs, h0, h1⟩ := hc
  obtain ⟨rfl, _⟩ := int_inv hi
  cases hx with
  | row _ _ _ g c gs et h2 h3 h4 h5 =>
   refine ⟨_, fun w _ => by rw [idx_run hT hd hk _ _ _ _ _ h0 h1], ?_⟩
   have : (⟨g, 0, none⟩ : Addr).add (i.toNat * (T e).sz) = ⟨g, i.toNat, none⟩ := by rw [Addr.add_lit, hs]; simp
   rw [this]
   exact .rowp id a i.toNat g c gs et h2 h3
  | rowNil => omega
 ·cases hc
theorem getB_some {H : List (Option Blk)} {id : Nat} {b : Blk} (hb : getB H id = some b) : H[id]? = some (some b) := by
 unfold getB at hb
 split at hb
 ·rename_i b' hb'; rw [hb']; simpa using hb
 ·cases hb
/-- The cells from an address on: so many, as said. -/
theorem ldC_ok {t : TypeId} (hT : TabOk P T) (hk : known (T t) = true) {e : List AVal} {ad : Addr} {u : Nat → Value} (hc : (ldC (T t) e).1 = true)
  (h : ∀ w', Below w.heap.size w w' → ∀ (j : Nat) (x : AVal), e[j]? = some x → w'.cell? (ad.add j) = some (u j) ∧ (u j).oneCell' = true) (hr : ∀ (j : Nat) (x : AVal), e[j]? = some x → RepV F φ x (u j)) :
  Yields P F φ w (loadVar t ad) (ldC (T t) e).2 := by
 obtain ⟨_, hag⟩ := known_run hT hk
 unfold ldC at hc ⊢
 cases hA : isAggT (T t) with
 | true =>
  rw [hA] at hc
  simp only [decide_eq_true_eq] at hc ⊢
  refine ⟨.agg ((List.range (T t).sz).map u).toArray, fun w hw => ?_, ?_⟩
  ·have hl := run_loadCells (P := P) w ad (T t).sz u (fun j hj => (h w hw j _ (List.getElem?_eq_getElem (by omega))).1)
   simp [loadVar, hag, hA, size_run hT hk, hl]
  ·refine .agg _ _ (by simp; omega) (fun i v hv => ?_) (fun i x v hx hv => ?_)
   ·simp only [List.getElem?_toArray, List.getElem?_map] at hv
    have hi : i < (T t).sz := by
     rcases Nat.lt_or_ge i (T t).sz with h | h
     ·exact h
     ·rw [List.getElem?_eq_none (by simpa using h)] at hv; cases hv
    rw [List.getElem?_range hi] at hv
    simp at hv; subst hv
    exact (h w (Below.refl _ _) i _ (List.getElem?_eq_getElem (by omega))).2
   ·have hi : i < (T t).sz := by
     rcases Nat.lt_or_ge i (T t).sz with h | h
     ·exact h
     ·rw [List.getElem?_eq_none (by simp; omega)] at hx; cases hx
    rw [List.getElem?_take, if_pos hi] at hx
    simp only [List.getElem?_toArray, List.getElem?_map, List.getElem?_range hi] at hv
    simp at hv; subst hv
    exact hr i x hx
 | false =>
  rw [hA] at hc
  simp only at hc ⊢
  match e, hc with
  | x :: r, _ =>
   refine ⟨u 0, fun w hw => ?_, hr 0 x rfl⟩
   have h0 := h w hw 0 x rfl
   have : w.cell? ad = some (u 0) := by simpa [Addr.add] using h0.1
   simp [loadVar, hag, hA, load, Sem.run, this]
theorem load_ok {t : TypeId} (hT : TabOk P T) (h : RelH F φ w0.heap.size st.h w) (hk : known (T t) = true) {x : AVal} {u : Value} (hx : RepV F φ x u)
  (hc : (loadA (T t) st.h x).1 = true) : Yields P F φ w (Instr.loadAt t u) (loadA (T t) st.h x).2 := by
 have key : ∀ {e : List AVal} {v : Value}, RepV F φ (.immp e) v → (ldC (T t) e).1 = true → Yields P F φ w (Instr.loadAt t v) (ldC (T t) e).2 := by
  intro e v hv hc
  cases hv with
  | immp _ ad u h1 h2 =>
   obtain ⟨y, hy, hr⟩ := ldC_ok hT hk (w := w) hc (fun w' hw' j x hx => ⟨agree_cell (h.belowR hw') (h1 j x hx).1, (h1 j x hx).2⟩) h2
   exact ⟨y, fun w hw => by simpa [Instr.loadAt, Instr.sureAddr] using hy w hw, hr.le (FLe.refl F) (PLe0 φ)⟩
 have blk : ∀ {id i j : Nat} {b : Blk} {v : Value}, RepV F φ (.ptr id i j) v → getB st.h id = some b → (ldC (T t) ((b.es.getD i []).drop j)).1 = true → Yields P F φ w (Instr.loadAt t v) (ldC (T t) ((b.es.getD i []).drop j)).2 := by
  intro id i j b v hv hb hc
  cases hv with
  | ptr _ _ _ g cap sz et h1 =>
   rcases (h.blk id b (getB_some hb)).atC h1 with ⟨h4, _⟩ | ⟨g', cap', cur, h4, _, _, hh, _, _, _, hes⟩
   ·rw [h1] at h4; cases h4
   ·rw [h1] at h4
    injection h4 with e1 e2 e3 e4
    subst e1 e2 e3 e4
    have hcell : ∀ w', Below w.heap.size w w' → ∀ m, w'.cell? ((⟨g, i * b.sz + j, none⟩ : Addr).add m) = cur[i * b.sz + j + m]? := fun w' hw' m => by rw [Addr.add_lit, cell_of_row w' g _ cur b.et (0, 0) ((hw'.block g (Array.getElem?_eq_some_iff.1 hh).1).trans hh)]
    obtain ⟨y, hy, hr⟩ := ldC_ok hT hk (w := w) (ad := ⟨g, i * b.sz + j, none⟩) (u := fun m => (cur[i * b.sz + j + m]?).getD undef) hc (fun w' hw' m x hx => by
     rw [List.getElem?_drop] at hx
     cases hes' : b.es[i]? with
     | none => rw [List.getD_eq_getElem?_getD, hes'] at hx; simp at hx
     | some e =>
      rw [List.getD_eq_getElem?_getD, hes'] at hx
      obtain ⟨u, hu, _, h1⟩ := (hes i e hes').2 (j + m) x hx
      rw [← Nat.add_assoc] at hu
      rw [hcell w' hw', hu]
      exact ⟨rfl, h1⟩) (fun m x hx => by
     rw [List.getElem?_drop] at hx
     cases hes' : b.es[i]? with
     | none => rw [List.getD_eq_getElem?_getD, hes'] at hx; simp at hx
     | some e =>
      rw [List.getD_eq_getElem?_getD, hes'] at hx
      obtain ⟨u, hu, hr, h1⟩ := (hes i e hes').2 (j + m) x hx
      rw [← Nat.add_assoc] at hu
      rw [hu]
      exact hr)
    exact ⟨y, fun w hw => by simpa [Instr.loadAt, Instr.sureAddr] using hy w hw, hr⟩
 unfold loadA at hc ⊢
 split at hc
 ·rename_i k n
  simp only [Bool.not_eq_true'] at hc
  cases hx with | intp _ _ _ hx => ?_
  have e : ldC (T t) [AVal.int k n] = (true, .int k n) := by simp [ldC, hc, hdA]
  have := key hx (by rw [e])
  rwa [e] at this
 ·exact key hx hc
 ·rename_i id i j
  split at hc
  ·rename_i et k xs hb
   simp only [Bool.and_eq_true, decide_eq_true_eq, Bool.not_eq_true'] at hc
   obtain ⟨⟨h1, rfl⟩, h3⟩ := hc
   have e : ldC (T t) ((Blk.es (.ints et k xs)).getD i [] |>.drop 0) = (true, .int k (xs.getD i 0)) := by
    simp [ldC, h1, hdA, Blk.es, intEs, List.getD_eq_getElem?_getD, List.getElem?_eq_getElem h3]
   have := blk hx hb (by rw [e])
   rwa [e] at this
  ·rename_i et sz es hb
   exact blk hx hb hc
  ·rename_i et rid n f len hb
   simp only [Bool.and_eq_true, decide_eq_true_eq, Bool.not_eq_true'] at hc
   obtain ⟨⟨h1, rfl⟩, h3⟩ := hc
   have e : ldC (T t) ((Blk.es (.outs et rid n f len)).getD i [] |>.drop 0) = (true, rowV rid (f i) (len i)) := by
    simp [ldC, h1, hdA, Blk.es, fnEs, outE, rowV, List.getD_eq_getElem?_getD, h3]
   have := blk hx hb (by rw [e])
   rwa [e] at this
  ·cases hc
 ·rename_i id i j
  split at hc
  ·rename_i et k X hb
   simp only [Bool.and_eq_true, decide_eq_true_eq, Bool.not_eq_true'] at hc
   obtain ⟨⟨h1, h3⟩, h4⟩ := hc
   cases hx with
   | rowp _ _ _ g c gs et' q1 q2 =>
    have hX : BlkX F φ w0.heap.size w id (.rows et k X) := by
     rcases h.blk id _ (getB_some hb) with ⟨q, _⟩ | ⟨_, _, _, q, _⟩ | q
     ·rw [q1] at q; cases q
     ·rw [q1] at q; cases q
     ·exact q
    obtain ⟨gs', p, p1, p2, _, p3⟩ := hX
    rw [q1] at p
    injection p with e1 e2
    subst e1 e2
    have hxi : X[i]? = some (X.getD i []) := by rw [List.getD_eq_getElem?_getD, List.getElem?_eq_getElem h3]; rfl
    obtain ⟨z1, z2, z3, z4, cur, z5, z6, z7⟩ := p3 i _ _ q2 hxi
    have hxj : (X.getD i [])[j]? = some ((X.getD i []).getD j 0) := by rw [List.getD_eq_getElem?_getD (l := X.getD i []), List.getElem?_eq_getElem h4]; rfl
    obtain ⟨y1, y2, y3⟩ := z7 j _ hxj
    have hcell : ∀ w', Below w.heap.size w w' → ∀ m, w'.cell? ((⟨g, j, none⟩ : Addr).add m) = cur[j + m]? := fun w' hw' m => by rw [Addr.add_lit, cell_of_row w' g _ cur et' (0, 0) ((hw'.block g (Array.getElem?_eq_some_iff.1 z5).1).trans z5)]
    have e : ldC (T t) [AVal.int k ((X.getD i []).getD j 0)] = (true, .int k ((X.getD i []).getD j 0)) := by simp [ldC, h1, hdA]
    obtain ⟨y, hy, hr⟩ := ldC_ok hT hk (w := w) (φ := φ0) (F := F) (e := [AVal.int k ((X.getD i []).getD j 0)]) (ad := ⟨g, j, none⟩) (u := fun m => (cur[j + m]?).getD undef) (by rw [e]) (fun w' hw' m x hx => by
      match m, hx with
      | 0, hx => rw [hcell w' hw', Nat.add_zero, y1]; exact ⟨rfl, rfl⟩) (fun m x hx => by
      match m, hx with
      | 0, hx =>
       simp at hx; subst hx
       rw [Nat.add_zero, y1]; exact .int _ _ y2 y3)
    rw [e] at hr
    exact ⟨y, fun w hw => by simpa [Instr.loadAt, Instr.sureAddr] using hy w hw, hr.le (FLe.refl F) (PLe0 φ)⟩
  ·cases hc
 ·cases hc
theorem field_ok {t : TypeId} (hT : TabOk P T) {f : Nat} {x : AVal} {u : Value} (hx : RepV F φ x u) (hc : (fieldA T (T t).d f x).1 = true) : Yields P F φ w (Instr.field t u f) (fieldA T (T t).d f x).2 := by
 unfold fieldA at hc ⊢
 split at hc
 ·rename_i l
  cases hx with | agg _ vs hl h1 hr => ?_
  split at hc
  ·rename_i fs hd
   obtain ⟨fields, hu, hf⟩ := struct_under hT hd
   split at hc
   ·rename_i off ft hft
    have hfield : ∃ g, fields[f]? = some g ∧ g.offset = off ∧ g.type = ft := by
     rw [← hf, List.getElem?_map, Array.getElem?_toList] at hft
     cases hg : fields[f]? with
     | none => rw [hg] at hft; simp at hft
     | some g => rw [hg] at hft; simp at hft; exact ⟨g, rfl, hft.1, hft.2⟩
    obtain ⟨g, hg, rfl, rfl⟩ := hfield
    split at hc
    ·rename_i hA
     simp only [Bool.and_eq_true, decide_eq_true_eq] at hc
     obtain ⟨hk, hlen⟩ := hc
     obtain ⟨_, hag⟩ := known_run hT hk
     refine ⟨.agg (vs.extract g.offset (g.offset + (T g.type).sz)), fun w _ => by simp [Instr.field, run_underlying hu, hg, part, hag, hA, asAgg, size_run hT hk], .agg _ _ ?_ (fun i v hv => ?_) (fun i x v hx hv => ?_)⟩
     ·simp only [List.length_take, List.length_drop, Array.size_extract]; omega
     ·rw [Array.getElem?_extract] at hv
      split at hv
      ·exact h1 _ v hv
      ·cases hv
     ·rw [Array.getElem?_extract] at hv
      rw [List.getElem?_take] at hx
      split at hv
      ·split at hx
       ·rw [List.getElem?_drop] at hx; exact hr _ x v hx hv
       ·cases hx
      ·cases hv
    ·rename_i hA
     simp only [Bool.and_eq_true, decide_eq_true_eq] at hc
     obtain ⟨hk, hlen⟩ := hc
     obtain ⟨_, hag⟩ := known_run hT hk
     have hx := List.getElem?_eq_getElem hlen
     have hv : vs[g.offset]? = some (vs[g.offset]'(by omega)) := Array.getElem?_eq_getElem (by omega)
     refine ⟨vs[g.offset]'(by omega), fun w _ => by simp [Instr.field, run_underlying hu, hg, part, hag, hA, asAgg, hv], ?_⟩
     rw [List.getD_eq_getElem?_getD, hx]
     exact hr _ _ _ hx hv
   ·cases hc
  ·cases hc
 ·cases hc
theorem fieldAddr_ok {t : TypeId} (hT : TabOk P T) {f : Nat} {x : AVal} {u : Value} (hx : RepV F φ x u) (hc : (fieldAddrA T (T t).d f x).1 = true) : Yields P F φ w (Instr.fieldAt t u f) (fieldAddrA T (T t).d f x).2 := by
 unfold fieldAddrA at hc ⊢
 split at hc
 ·rename_i fs hd
  obtain ⟨fields, hu, hf⟩ := struct_under hT hd
  split at hc
  ·rename_i off ft hft
   have hfield : ∃ g, fields[f]? = some g ∧ g.offset = off ∧ g.type = ft := by
    rw [← hf, List.getElem?_map, Array.getElem?_toList] at hft
    cases hg : fields[f]? with
    | none => rw [hg] at hft; simp at hft
    | some g => rw [hg] at hft; simp at hft; exact ⟨g, rfl, hft.1, hft.2⟩
   obtain ⟨g, hg, rfl, rfl⟩ := hfield
   split at hc
   ·rename_i e
    simp only [Bool.and_eq_true, Bool.not_eq_true', decide_eq_false_iff_not] at hc
    obtain ⟨hk, hz⟩ := hc
    cases hx with | immp _ ad u h1 h2 => ?_
    refine ⟨.pointer (some (ad.add g.offset)), fun w _ => by simp [Instr.fieldAt, run_underlying hu, hg, Instr.sureAddr, fieldPlace, size_run hT hk, hz], .immp _ _ (fun j => u (g.offset + j)) (fun j x hx => ?_) (fun j x hx => ?_)⟩
    ·rw [List.getElem?_drop] at hx
     have := h1 _ x hx
     have e : (ad.add g.offset).add j = ad.add (g.offset + j) := by
      unfold Addr.add
      by_cases ha : g.offset = 0 <;> by_cases hb : j = 0 <;> simp [ha, hb, Nat.add_assoc]
     rw [e]; exact this
    ·rw [List.getElem?_drop] at hx; exact h2 _ x hx
   ·rename_i id i j
    simp only [Bool.and_eq_true, Bool.not_eq_true', decide_eq_false_iff_not] at hc
    obtain ⟨hk, hz⟩ := hc
    cases hx with | ptr _ _ _ b cap sz et h1 => ?_
    refine ⟨.pointer (some ((⟨b, i * sz + j, none⟩ : Addr).add g.offset)), fun w _ => by simp [Instr.fieldAt, run_underlying hu, hg, Instr.sureAddr, fieldPlace, size_run hT hk, hz], ?_⟩
    rw [Addr.add_lit, Nat.add_assoc]
    exact .ptr id i (j + g.offset) b cap sz et h1
   ·cases hc
  ·cases hc
 ·cases hc
theorem ext_ok {i : Nat} {x : AVal} {u : Value} (hx : RepV F φ x u) (hc : (extA i x).1 = true) : Yields P F φ w (Instr.extract u i) (extA i x).2 := by
 unfold extA at hc ⊢
 split at hc
 ·rename_i l
  simp only [decide_eq_true_eq] at hc
  cases hx with | tup _ vs hl hr => ?_
  have hx := List.getElem?_eq_getElem hc
  have hv : vs[i]? = some (vs[i]'(by omega)) := Array.getElem?_eq_getElem (by omega)
  refine ⟨vs[i]'(by omega), fun w _ => by simp [Instr.extract, hv], ?_⟩
  simp only [List.getD_eq_getElem?_getD, hx]
  exact hr _ _ _ hx hv
 ·cases hc
theorem str_ok {t : TypeId} (hT : TabOk P T) (hd : (T t).d = .str) {x i : AVal} {u v : Value} (hx : RepV F φ x u) (hi : RepV F φ i v) (hc : (strA x i).1 = true) : Yields P F φ w (Instr.index t u v) (strA x i).2 := by
 unfold strA at hc ⊢
 split at hc
 ·rename_i s k i
  simp only [Bool.and_eq_true, decide_eq_true_eq] at hc
  obtain ⟨h0, h1⟩ := hc
  obtain ⟨rfl, _⟩ := int_inv hi
  cases hx with | str s _ hs _ => ?_
  subst hs
  have hlt : i.toNat < s.data.size := by simpa using (show i.toNat < s.data.toList.length by omega)
  have hg : s[i.toNat]? = some (s.data[i.toNat]'hlt) := by
   show (if h : i.toNat < s.size then some (s[i.toNat]) else none) = _
   exact dif_pos (c := i.toNat < s.size) hlt
  refine ⟨.int .u8 (s.data[i.toNat]'hlt).toNat, fun w _ => by simp [Instr.index, run_underlying (str_under hT hd), asIntOf, h0, hg], ?_⟩
  have : s.data.toList.getD i.toNat 0 = s.data[i.toNat]'hlt := by
   rw [List.getD_eq_getElem?_getD, Array.getElem?_toList, Array.getElem?_eq_getElem hlt]; rfl
  rw [this]
  have := (s.data[i.toNat]'hlt).toNat_lt
  exact .int _ _ (by simp [AX.lo]) (by simp [AX.hi]; omega)
 ·cases hc
theorem len_ok {t ty : TypeId} (hT : TabOk P T) {x : AVal} {u : Value} (hx : RepV F φ x u) (hd : lenTy (T t).d x = true) (hc : (lenA x).1 = true) :
  (Builtin.len_ #[t] ty #[u]).run P w = .ok (.int .i64 (lenA x).2) w ∧ (lenA x).2 ≤ maxLen := by
 have slice : ∀ {e : TypeId} {a : Option Addr} {n c : Nat}, (T t).d = .slice e → (Builtin.len_ #[t] ty #[.slice a n c]).run P w = .ok (.int .i64 n) w := fun hd => by
  simp [Builtin.len_, run_underlying (slice_under hT hd), goInt]
 unfold lenTy at hd
 split at hd
 ·cases hd
 ·rename_i e hd' hne
  cases hx with
  | ints k xs v h =>
   cases h with
   | imm _ _ A n c u e1 e2 e3 e4 e5 e6 e7 =>
    subst e1
    exact ⟨by rw [slice hd']; simp [lenA, intEs], by simp only [lenA]; simp only [intEs, List.length_map] at e2; omega⟩
  | fn sz m f v h =>
   cases h with
   | imm _ _ A n c u e1 e2 e3 e4 e5 e6 e7 =>
    subst e1
    exact ⟨by rw [slice hd']; simp [lenA, fnEs], by simp only [lenA]; simp only [fnEs, List.length_map, List.length_range] at e2; omega⟩
  | imm sz es A n c u e1 e2 e3 e4 e5 e6 e7 => subst e1; exact ⟨slice hd', by simp only [lenA]; omega⟩
  | own id n g cap sz et h1 h2 h3 => exact ⟨slice hd', by simp only [lenA]; omega⟩
  | ownNil id h => exact ⟨slice hd', by simp [lenA]⟩
  | row id i n g c gs et h1 h2 h3 h4 => exact ⟨slice hd', by simp only [lenA]; omega⟩
  | rowNil id i gs et h1 h2 => exact ⟨slice hd', by simp [lenA]⟩
  | nil => exact ⟨slice hd', by simp [lenA]⟩
  | str s l h h' => exact (hne l rfl).elim
  | _ => simp [lenA] at hc
 ·rename_i l hd'
  cases hx with | str s _ h h' => ?_
  subst h
  exact ⟨by simp [Builtin.len_, run_underlying (str_under hT hd'), goInt, lenA], h'⟩
 ·cases hd
theorem drop_imm {k : IntKind} {xs : List Int} {v : Value} (hx : RepV F φ (.ints k xs) v) {l h : Nat} (h1 : l ≤ h) (h2 : h ≤ xs.length) :
  ∃ A n c, v = .slice A n c ∧ n = xs.length ∧ n ≤ c ∧ RepV F φ (.ints k ((xs.take h).drop l)) (.slice (if c = l then A else A.map (·.add (l * 1))) (h - l) (c - l)) := by
 cases hx with | ints _ _ _ hx => ?_
 cases hx with
 | imm _ _ A n c u e1 e2 e3 e4 e5 e6 e7 =>
  have hn : n = xs.length := by simpa [intEs] using e1
  subst hn
  refine ⟨A, _, c, rfl, rfl, e2, .ints _ _ _ (.imm 1 _ _ _ _ (fun i j => u (i + l) j) (by simp [intEs]; omega) (by omega) (by omega) (fun i e he => ?_) (fun hp => ?_) (fun ad i e j x hA hi hj => ?_) (fun i e j x hi hj => ?_))⟩
  ·simp only [intEs, List.getElem?_map, Option.map_eq_some_iff] at he
   obtain ⟨x, _, rfl⟩ := he; rfl
  ·rw [if_neg (by omega)]
   cases A with
   | none => exact absurd rfl (e5 (by omega))
   | some a => simp
  ·have hil : i + l < h := by
    rcases Nat.lt_or_ge (i + l) h with q | q
    ·exact q
    ·rw [intEs, List.getElem?_map, List.getElem?_eq_none (by simp; omega)] at hi; cases hi
   rw [if_neg (by omega)] at hA
   cases A with
   | none => cases hA
   | some a =>
    simp at hA; subst hA
    have hi' : (intEs k xs)[i + l]? = some e := by
     simp only [intEs, List.getElem?_map, List.getElem?_drop, List.getElem?_take, Nat.add_comm l i, if_pos hil] at hi ⊢; exact hi
    have := e6 a (i + l) e j x rfl hi' hj
    have e : (a.add l).add (i * 1 + j) = a.add ((i + l) * 1 + j) := by
     unfold Addr.add
     by_cases ha : l = 0
     ·subst ha; simp
     ·by_cases hb : i * 1 + j = 0
      ·have : i = 0 ∧ j = 0 := by omega
       simp [this.1, this.2, ha]
      ·rw [if_neg ha, if_neg hb, if_neg (by omega)]; simp; omega
    rw [e]; exact this
  ·have hil : i + l < h := by
    rcases Nat.lt_or_ge (i + l) h with q | q
    ·exact q
    ·rw [intEs, List.getElem?_map, List.getElem?_eq_none (by simp; omega)] at hi; cases hi
   refine e7 (i + l) e j x ?_ hj
   simp only [intEs, List.getElem?_map, List.getElem?_drop, List.getElem?_take, Nat.add_comm l i, if_pos hil] at hi ⊢; exact hi
/-- A bound, as the model has it. -/
inductive Bnd : Option AVal → Option Value → Prop
 | none : Bnd none none
 | some (k : IntKind) (i : Int) : Bnd (some (.int k i)) (some (.int k i))
theorem bnd_of {x : Option AVal} {v : Option Value} (hx : ∀ y, x = some y → ∃ u, v = some u ∧ RepV F φ y u) (h0 : x = none → v = none) {d : Nat} (hc : (bndA d x).1 = true) : Bnd x v := by
 cases x with
 | none => rw [h0 rfl]; exact .none
 | some q =>
  obtain ⟨u, rfl, hr⟩ := hx q rfl
  cases hr <;> simp only [bndA, Bool.false_eq_true] at hc
  exact .some _ _
theorem run_sl {t e : TypeId} (hT : TabOk P T) (hd : (T t).d = .slice e) (hk : known (T e) = true) {A : Option Addr} {n c : Nat} {lo hi : Option AVal} {vl vh : Option Value} (bl : Bnd lo vl) (bh : Bnd hi vh)
  (h1 : (bndA 0 lo).1 = true) (h2 : (bndA n hi).1 = true) (h3 : (bndA 0 lo).2 ≤ (bndA n hi).2) (h4 : (bndA n hi).2 ≤ c) :
  (Instr.sliceAt t (.slice A n c) vl vh none).run P w = .ok (.slice (if c = (bndA 0 lo).2 then A else A.map (·.add ((bndA 0 lo).2 * (T e).sz))) ((bndA n hi).2 - (bndA 0 lo).2) (c - (bndA 0 lo).2)) w := by
 have hu := run_underlying (slice_under hT hd)
 have hz := size_run hT hk
 cases bl with
 | none =>
  cases bh with
  | none => simp [Instr.sliceAt, Instr.slice, hu, Instr.sliceBounds, hz, bndA]
  | some k j =>
   simp only [bndA, decide_eq_true_eq] at h2 h4
   have : j ≤ (c : Int) := by omega
   simp [Instr.sliceAt, Instr.slice, hu, Instr.sliceBounds, Instr.sliceBound, asIntOf, hz, bndA, h2, this]
 | some k' i =>
  simp only [bndA, decide_eq_true_eq] at h1 h3
  cases bh with
  | none =>
   simp only [bndA] at h3 h4
   have : i ≤ (n : Int) := by omega
   simp [Instr.sliceAt, Instr.slice, hu, Instr.sliceBounds, Instr.sliceBound, asIntOf, hz, bndA, h1, this]
  | some k j =>
   simp only [bndA, decide_eq_true_eq] at h2 h3 h4
   have q1 : j ≤ (c : Int) := by omega
   have q2 : i ≤ (j.toNat : Int) := by omega
   have q3 : ¬ max j 0 < i := by omega
   simp [Instr.sliceAt, Instr.slice, hu, Instr.sliceBounds, Instr.sliceBound, asIntOf, hz, bndA, h1, h2, q1, q3]
theorem slice_ok {t e : TypeId} (hT : TabOk P T) (hd : (T t).d = .slice e) (hk : known (T e) = true) {x : AVal} {u : Value} {lo hi : Option AVal} {vl vh : Option Value} (hx : RepV F φ x u)
  (hs : ∀ k xs, x = .ints k xs → (T e).sz = 1)
  (hl : ∀ y, lo = some y → ∃ u, vl = some u ∧ RepV F φ y u) (hl0 : lo = none → vl = none) (hh : ∀ y, hi = some y → ∃ u, vh = some u ∧ RepV F φ y u) (hh0 : hi = none → vh = none)
  (hc : (sliceA x lo hi).1 = true) : Yields P F φ w (Instr.sliceAt t u vl vh none) (sliceA x lo hi).2 := by
 unfold sliceA at hc ⊢
 split at hc
 ·rename_i k xs
  simp only [Bool.and_eq_true, decide_eq_true_eq] at hc
  obtain ⟨⟨⟨h1, h2⟩, h3⟩, h4⟩ := hc
  obtain ⟨A, n, c, rfl, rfl, hnc, hr⟩ := drop_imm hx h3 h4
  refine ⟨_, fun w _ => run_sl hT hd hk (bnd_of hl hl0 h1) (bnd_of hh hh0 h2) h1 h2 h3 (by omega), ?_⟩
  rw [hs k xs rfl]
  exact hr
 ·rename_i id n
  split at hc
  ·simp only [Bool.and_eq_true, decide_eq_true_eq] at hc
   obtain ⟨h2, h4⟩ := hc
   have b0 := bnd_of hl hl0 (d := 0) rfl
   cases hx with
   | own _ _ g cap sz et q1 q2 q3 =>
    have := fun w => run_sl (w := w) (A := some ⟨g, 0, none⟩) (n := n) (c := cap) hT hd hk b0 (bnd_of hh hh0 h2) rfl h2 (Nat.zero_le _) (by omega)
    refine ⟨_, fun w _ => this w, ?_⟩
    simp only [show (bndA 0 (none : Option AVal)).2 = 0 from rfl, Nat.sub_zero, Nat.zero_mul, Addr.add_zero', Option.map_some, ite_self]
    exact .own _ _ g cap sz et q1 (by omega) q3
   | ownNil _ q1 =>
    have := fun w => run_sl (w := w) (A := none) (n := 0) (c := 0) hT hd hk b0 (bnd_of hh hh0 h2) rfl h2 (Nat.zero_le _) (by omega)
    refine ⟨_, fun w _ => this w, ?_⟩
    have e0 : (bndA 0 hi).2 = 0 := by omega
    simp only [show (bndA 0 (none : Option AVal)).2 = 0 from rfl, Nat.sub_zero, Option.map_none, ite_self, e0]
    exact .ownNil _ q1
  ·cases hc
 ·cases hc
theorem max_ok {ts : Array TypeId} {ty : TypeId} {l : List AVal} {vs : List Value} (hl : l.length = vs.length) (hr : ∀ (i : Nat) (x : AVal) (v : Value), l[i]? = some x → vs[i]? = some v → RepV F φ x v) (m : Bool) (hc : (maxA m l).1 = true) :
  Yields P F φ w (bif m then Builtin.max_ ts ty vs.toArray else Builtin.min_ ts ty vs.toArray) (.int .i64 (maxA m l).2) := by
 unfold maxA at hc ⊢
 split at hc
 ·rename_i a b
  match vs, hl with
  | [u, v], _ =>
   obtain ⟨rfl, a1, a2⟩ := int_inv (hr 0 _ _ rfl rfl)
   obtain ⟨rfl, b1, b2⟩ := int_inv (hr 1 _ _ rfl rfl)
   cases m
   ·refine ⟨.int .i64 (min a b), fun w _ => ?_, .int _ _ (by simp only [cond_false]; omega) (by simp only [cond_false]; omega)⟩
    simp only [cond_false, Builtin.min_, List.foldlM_cons, List.foldlM_nil, Builtin.min2]
    have : (if b < a then b else a) = min a b := by split <;> omega
    simp [this]
   ·refine ⟨.int .i64 (max a b), fun w _ => ?_, .int _ _ (by simp only [cond_true]; omega) (by simp only [cond_true]; omega)⟩
    simp only [cond_true, Builtin.max_, List.foldlM_cons, List.foldlM_nil, Builtin.max2]
    have : (if a < b then b else a) = max a b := by split <;> omega
    simp [this]
 ·cases hc
theorem val_of {o : Oper} {s : Sem Value} {x : AVal} (he : execOp a.eval o = (do pure (Next.value (← s)))) (h : Yields P F φ w s x) : ∃ u, (∀ w', Below w.heap.size w w' → (execOp a.eval o).run P w' = .ok (.value u) w') ∧ RepV F φ x u := by
 obtain ⟨u, hu, hr⟩ := h
 exact ⟨u, fun w' hw' => by rw [he]; simp [hu w' hw'], hr⟩
theorem byteStr_ok (hT : TabOk P T) (h : RelH F φ w0.heap.size st.h w) {s d : TypeId} (hd : (T d).d = .str) {x : AVal} {u : Value} (hx : RepV F φ x u) (hc : (byteStr T st.h s x).1 = true) : Yields P F φ w (convert s d u) (byteStr T st.h s x).2 := by
 unfold byteStr at hc ⊢
 split at hc
 ·rename_i e hs
  split at hc
  ·rename_i he
   split at hc
   ·cases hx
    exact ⟨_, fun w _ => run_convert_bytes_nil w s e (slice_under hT hs) (int_under hT he) 0 0 d (str_under hT hd), .str _ _ rfl (by simp)⟩
   ·rename_i id n
    split at hc
    ·rename_i et xs hb
     simp only [decide_eq_true_eq] at hc
     cases hx with
     | ownNil _ q => exact ⟨_, fun w _ => run_convert_bytes_nil w s e (slice_under hT hs) (int_under hT he) 0 0 d (str_under hT hd), .str _ _ (by simp) (by simp)⟩
     | own _ _ g cap sz et' q1 q2 q3 =>
      rcases (h.blk id _ (getB_some hb)).atC q1 with ⟨p, _⟩ | ⟨g', cap', cur, p, p1, p2, p3, p4, p5, p6, p7⟩
      ·rw [q1] at p; cases p
      rw [q1] at p
      injection p with e1 e2 e3 e4
      subst e1 e2
      refine ⟨_, fun w' hw' => run_convert_bytes_arg w' s e (slice_under hT hs) (int_under hT he) g 0 n cap (xs.take n) (by simp; omega) (fun i hi => ?_) d (str_under hT hd), .str _ _ rfl (by simp; omega)⟩
      have hi' : i < xs.length := by omega
      obtain ⟨u, u1, u2, _⟩ := (p7 i [.int .u8 xs[i]] (by simp [Blk.es, intEs, hi'])).2 0 _ rfl
      obtain ⟨rfl, _⟩ := int_inv u2
      have hsz : Blk.sz (.ints et .u8 xs) = 1 := rfl
      rw [hsz, Nat.mul_one, Nat.add_zero] at u1
      rw [cell_of_row w' g (0 + i) cur _ (0, 0) ((hw'.block g (Array.getElem?_eq_some_iff.1 p3).1).trans p3), Nat.zero_add, u1]
      simp [List.getD_eq_getElem?_getD, List.getElem?_take, hi, hi']
    ·cases hc
   ·cases hc
  ·cases hc
 ·cases hc
theorem isB_inv {x : AVal} {v : Value} (hr : RepV F φ x v) (hb : isB x = true) : v = .bool (bv x) := by
 cases x <;> simp only [isB, Bool.false_eq_true] at hb
 exact bool_inv hr
/-- Cells of one value, as they stand in a new variable. -/
theorem agg_cells {l : List AVal} {v : Value} (hr : RepV F φ (.agg l) v) : ∃ vs : Array Value, v = .agg vs ∧ vs.size = l.length ∧ ∀ (j : Nat) (x : AVal), l[j]? = some x → ∃ u, vs[j]? = some u ∧ RepV F φ x u ∧ u.oneCell' = true := by
 cases hr with | agg _ vs hl h1 h2 => ?_
 refine ⟨vs, rfl, hl.symm, fun j x hx => ?_⟩
 have hj : j < l.length := by
  rcases Nat.lt_or_ge j l.length with q | q
  ·exact q
  ·rw [List.getElem?_eq_none q] at hx; cases hx
 have hv : vs[j]? = some (vs[j]'(by omega)) := Array.getElem?_eq_getElem (by omega)
 exact ⟨_, hv, h2 j x _ hx hv, h1 j _ hv⟩
theorem one_cell {x : AVal} {v : Value} (hr : RepV F φ x v) (h1 : one1 x = true) : v.oneCell' = true ∧ v.cells = #[v] := by
 cases x <;> simp only [one1, Bool.false_eq_true] at h1
 case ints => cases hr with | ints _ _ _ hr => cases hr; exact ⟨rfl, rfl⟩
 case intp => cases hr with | intp _ _ _ hr => cases hr; exact ⟨rfl, rfl⟩
 case fn => cases hr with | fn _ _ _ _ hr => cases hr; exact ⟨rfl, rfl⟩
 all_goals (cases hr <;> exact ⟨rfl, rfl⟩)
theorem cells_rep {x : AVal} {v : Value} {l : List AVal} (hr : RepV F φ x v) (hc : cellsA x = some l) :
  v.cells.size = l.length ∧ ∀ (j : Nat) (y : AVal), l[j]? = some y → ∃ u, v.cells[j]? = some u ∧ RepV F φ y u ∧ u.oneCell' = true := by
 unfold cellsA at hc
 split at hc
 ·rename_i l'
  injection hc with e; subst e
  obtain ⟨vs, rfl, hl, hx⟩ := agg_cells hr
  exact ⟨hl, hx⟩
 ·split at hc
  ·rename_i h1
   injection hc with e; subst e
   obtain ⟨q1, q2⟩ := one_cell hr h1
   rw [q2]
   refine ⟨rfl, fun j y hy => ?_⟩
   match j, hy with
   | 0, hy => simp at hy; subst hy; exact ⟨v, rfl, hr, q1⟩
  ·cases hc
theorem fold_set (vs : List Value) : ∀ (o s : Nat) (cells : Array Value), o + s + vs.length ≤ cells.size →
  ((vs.zipIdx s).foldl (fun cs (p : Value × Nat) => cs.setIfInBounds (o + p.2) p.1) cells).size = cells.size ∧
  ∀ m, ((vs.zipIdx s).foldl (fun cs (p : Value × Nat) => cs.setIfInBounds (o + p.2) p.1) cells)[m]? = if o + s ≤ m ∧ m < o + s + vs.length then vs[m - (o + s)]? else cells[m]? := by
 induction vs with
 | nil => intro o s cells _; exact ⟨rfl, fun m => by rw [if_neg (by simp)]; rfl⟩
 | cons v vs ih =>
  intro o s cells h
  simp only [List.length_cons] at h
  rw [List.zipIdx_cons, List.foldl_cons]
  obtain ⟨h1, h2⟩ := ih o (s + 1) (cells.setIfInBounds (o + s) v) (by simp; omega)
  refine ⟨by rw [h1]; simp, fun m => ?_⟩
  rw [h2]
  by_cases hm : m = o + s
  ·subst hm
   rw [if_neg (by omega), if_pos (by simp), Array.getElem?_setIfInBounds_self_of_lt (by omega)]; simp
  ·by_cases hin : o + (s + 1) ≤ m ∧ m < o + (s + 1) + vs.length
   ·rw [if_pos hin, if_pos (by simp; omega)]
    rw [show m - (o + s) = (m - (o + (s + 1))) + 1 by omega, List.getElem?_cons_succ]
   ·rw [if_neg hin, if_neg (by simp; omega), Array.getElem?_setIfInBounds_ne (by omega)]
theorem fold_setA (v : Value) (o : Nat) (cells : Array Value) (h : o + v.cells.size ≤ cells.size) :
  (v.cells.zipIdx.foldl (fun cs (p : Value × Nat) => cs.setIfInBounds (o + p.2) p.1) cells).size = cells.size ∧
  ∀ m, (v.cells.zipIdx.foldl (fun cs (p : Value × Nat) => cs.setIfInBounds (o + p.2) p.1) cells)[m]? = if o ≤ m ∧ m < o + v.cells.size then v.cells[m - o]? else cells[m]? := by
 have := fold_set v.cells.toList o 0 cells (by simpa using h)
 have e : v.cells.zipIdx.foldl (fun cs (p : Value × Nat) => cs.setIfInBounds (o + p.2) p.1) cells = (v.cells.toList.zipIdx 0).foldl (fun cs (p : Value × Nat) => cs.setIfInBounds (o + p.2) p.1) cells := by
  rw [← Array.foldl_toList, Array.toList_zipIdx]
 rw [e]
 simpa using this
theorem fillA_ok {T : Tab} {fs : List (Nat × TypeId)} : ∀ (ps : List (Nat × AVal)) (vs : List (Nat × Value)) (l : List AVal) (cells : Array Value), ps.length = vs.length →
  (∀ (q : Nat) (p : Nat × AVal) (v : Nat × Value), ps[q]? = some p → vs[q]? = some v → p.1 = v.1 ∧ RepV F φ p.2 v.2) →
  cells.size = l.length → (∀ (j : Nat) (x : AVal), l[j]? = some x → ∃ u, cells[j]? = some u ∧ RepV F φ x u ∧ u.oneCell' = true) → (fillA T fs l ps).1 = true →
  ∃ cells', Instr.fill (fun x => (fs.map fun f => (f.1, (T f.2).sz))[x]?) cells vs = some cells' ∧ cells'.size = (fillA T fs l ps).2.length ∧ ∀ (j : Nat) (x : AVal), (fillA T fs l ps).2[j]? = some x → ∃ u, cells'[j]? = some u ∧ RepV F φ x u ∧ u.oneCell' = true
 | [], [], l, cells, _, _, hs, hr, _ => ⟨cells, rfl, hs, hr⟩
 | [], _ :: _, _, _, hl, _, _, _, _ => by simp at hl
 | _ :: _, [], _, _, hl, _, _, _, _ => by simp at hl
 | (i, x) :: ps, (i', v) :: vs, l, cells, hl, hp, hs, hr, hc => by
  obtain ⟨he, hv⟩ := hp 0 _ _ rfl rfl
  simp only at he hv
  subst he
  simp only [fillA] at hc ⊢
  cases hf : fs[i]? with
  | none => rw [hf] at hc; simp at hc
  | some f =>
   obtain ⟨off, ft⟩ := f
   cases hx : cellsA x with
   | none => rw [hf, hx] at hc; simp at hc
   | some xs =>
    rw [hf, hx] at hc
    simp only [Bool.and_eq_true, decide_eq_true_eq] at hc ⊢
    obtain ⟨⟨h1, h2⟩, h3⟩ := hc
    obtain ⟨s1, s2⟩ := cells_rep hv hx
    obtain ⟨f1, f2⟩ := fold_setA v off cells (by omega)
    have hlen : (setAt off l xs).length = l.length := by simp [setAt]; omega
    have hset : ∀ (j : Nat) (y : AVal), (setAt off l xs)[j]? = some y → ∃ u, (v.cells.zipIdx.foldl (fun cs (p : Value × Nat) => cs.setIfInBounds (off + p.2) p.1) cells)[j]? = some u ∧ RepV F φ y u ∧ u.oneCell' = true := by
     intro j y hy
     rw [f2]
     unfold setAt at hy
     by_cases hj : j < off
     ·rw [if_neg (by omega)]
      rw [List.append_assoc, List.getElem?_append_left (by simp; omega), List.getElem?_take_of_lt hj] at hy
      exact hr j y hy
     ·by_cases hj2 : j < off + xs.length
      ·rw [if_pos (by omega)]
       rw [List.append_assoc, List.getElem?_append_right (by simp; omega), List.getElem?_append_left (by simp; omega)] at hy
       have e : j - (l.take off).length = j - off := by simp; omega
       rw [e] at hy
       exact s2 _ _ hy
      ·rw [if_neg (by omega)]
       rw [List.getElem?_append_right (by simp; omega), List.getElem?_drop] at hy
       have e : off + xs.length + (j - (l.take off ++ xs).length) = j := by simp; omega
       rw [e] at hy
       exact hr j y hy
    obtain ⟨c', r1, r2, r3⟩ := fillA_ok ps vs (setAt off l xs) _ (by simpa using hl) (fun q p v hp' hv' => hp (q + 1) p v (by simpa using hp') (by simpa using hv')) (by rw [f1, hlen, hs]) hset h3
    refine ⟨c', ?_, r2, r3⟩
    simp only [Instr.fill, List.getElem?_map, hf, Option.map_some]
    rw [if_neg (by simp; omega)]
    simpa [List.getElem?_map] using r1
theorem places_run {T : Tab} (hT : TabOk P T) (w : World) : ∀ (fields : List Field), (fields.all fun f => known (T f.type)) = true →
  (fields.mapM fun f => Prod.mk f.offset <$> sizeOf f.type).run P w = .ok (fields.map fun f => (f.offset, (T f.type).sz)) w
 | [], _ => by simp
 | f :: fs, h => by
  simp only [List.all_cons, Bool.and_eq_true] at h
  simp [List.mapM_cons, size_run hT h.1 w, places_run hT w fs h.2]
theorem buildS_ok {T : Tab} (hT : TabOk P T) {t : TypeId} {ps : List (Nat × AVal)} {vs : Array (Nat × Value)} (hl : ps.length = vs.size)
  (hp : ∀ (q : Nat) (p : Nat × AVal) (v : Nat × Value), ps[q]? = some p → vs[q]? = some v → p.1 = v.1 ∧ RepV F φ p.2 v.2) (hc : (buildA T (T t) ps).1 = true) : Yields P F φ w (Instr.build t vs) (buildA T (T t) ps).2 := by
 unfold buildA at hc ⊢
 split at hc
 ·rename_i fs cs hd hz
  simp only [Bool.and_eq_true] at hc ⊢
  obtain ⟨⟨h1, h2⟩, h3⟩ := hc
  obtain ⟨fields, hu, hf⟩ := struct_under hT hd
  have hk : known (T t) = true := by simp [known, hd]
  obtain ⟨c', r1, r2, r3⟩ := fillA_ok (F := F) (φ := φ) ps vs.toList (cs.toList.map absV) cs (by simpa using hl) (fun q p v hp' hv' => hp q p v hp' (by simpa using hv')) (by simp) (fun j x hx => by
   rw [List.getElem?_map, Array.getElem?_toList] at hx
   cases hq : cs[j]? with
   | none => rw [hq] at hx; simp at hx
   | some u =>
    rw [hq] at hx; simp at hx; subst hx
    exact ⟨u, rfl, absV_rep F φ u, (List.all_eq_true.1 h2) u (by simpa using Array.mem_of_getElem? hq)⟩) h3
  refine ⟨.agg c', fun w _ => ?_, .agg _ _ r2.symm (fun j u hu' => ?_) (fun j x u hx hu' => ?_)⟩
  ·have hplaces := places_run hT w fields.toList (by rw [← hf] at h1; simpa [List.all_map] using h1)
   have r1' : Instr.fill (fun x => (fields.toList.map fun f => (f.offset, (T f.type).sz))[x]?) cs vs.toList = some c' := by
    rw [← hf] at r1
    simpa [List.map_map, Function.comp_def] using r1
   simp [Instr.build, run_underlying hu, zero_run hT hk, hz, Value.cells, Array.mapM_eq_mapM_toList, hplaces]
   simp at r1'
   simp [r1']
  ·have hj : j < (fillA T fs (cs.toList.map absV) ps).2.length := by
    rw [← r2]
    rcases Nat.lt_or_ge j c'.size with q | q
    ·exact q
    ·rw [Array.getElem?_eq_none q] at hu'; cases hu'
   obtain ⟨u2, e1, _, e3⟩ := r3 j _ (List.getElem?_eq_getElem hj)
   rw [hu'] at e1; cases e1; exact e3
  ·obtain ⟨u2, e1, e2, _⟩ := r3 j x hx
   rw [hu'] at e1; cases e1; exact e2
 ·cases hc
set_option maxHeartbeats 1000000 in
theorem pv_ok (hT : TabOk P T) (h : Rel F φ w0 st a w) {o : Oper} (hc : (pv T st.h true (opd st.s) o.op).1 = true) :
  ∃ u, (∀ w', Below w.heap.size w w' → (execOp a.eval o).run P w' = .ok (.value u) w') ∧ RepV F φ (pv T st.h true (opd st.s) o.op).2 u := by
 obtain ⟨dst, op, type, pos, after, guard⟩ := o
 simp only at hc ⊢
 cases op <;> simp only [pv, Bool.false_eq_true, Bool.and_eq_true, Bool.not_true, Bool.false_or] at hc ⊢
 case move x => exact ⟨_, fun w _ => by simp [execOp], ev_rep h hc⟩
 case assign x => exact ⟨_, fun w _ => by simp [execOp], ev_rep h hc⟩
 case nilCheck x =>
  obtain ⟨h1, h2⟩ := hc
  have hx := ev_rep h h1
  have hp : ∃ ad, a.eval x = .pointer (some ad) := by
   generalize a.eval x = u at hx
   generalize sv (opd st.s x) = y at hx h2
   cases hx <;> simp only [ptrA, Bool.false_eq_true] at h2
   ·exact ⟨_, rfl⟩
   ·exact ⟨_, rfl⟩
   ·rename_i h4; cases h4; exact ⟨_, rfl⟩
   ·exact ⟨_, rfl⟩
  obtain ⟨ad, hp⟩ := hp
  exact ⟨a.eval x, fun w _ => by simp [execOp, hp], hx⟩
 case pick c x y =>
  obtain ⟨⟨⟨⟨⟨h1, h2⟩, h3⟩, h4⟩, h5⟩, h6⟩ := hc
  have hcv := isB_inv (ev_rep h h1) h2
  cases hb : bv (sv (opd st.s c)) with
  | true =>
   rw [hb] at h3 hcv
   have hx := isB_inv (ev_rep h (by simpa using h3)) h4
   exact ⟨.bool (bv (sv (opd st.s x))), fun w _ => by simp [execOp, hcv, asBool, hx], .bool _⟩
  | false =>
   rw [hb] at h5 hcv
   have hx := isB_inv (ev_rep h (by simpa using h5)) h6
   exact ⟨.bool (bv (sv (opd st.s y))), fun w _ => by simp [execOp, hcv, asBool, hx], .bool _⟩
 case binOp op t x y yt =>
  obtain ⟨⟨h1, h2⟩, h3⟩ := hc
  have hx := ev_rep h h1
  have hy := ev_rep h h2
  have hg : eqGuard op t x y (a.eval x) (a.eval y) = pure () := by
   generalize a.eval x = u at hx
   generalize sv (opd st.s x) = X at hx h3
   cases hx <;> first | exact eqGuard_at_int _ _ _ _ _ _ _ | exact eqGuard_at_bool _ _ _ _ _ _ | exact eqGuard_at_string _ _ _ _ _ _ | (exfalso; revert h3; unfold bin3 bin2; cases sv (opd st.s y) <;> simp)
  exact val_of (by simp only [execOp, hg]; rfl) (bin3_ok hT hx hy h3)
 case unOp op t x => exact val_of (by simp only [execOp]) (un1_ok (ev_rep h hc.1) hc.2)
 case extract x i => exact val_of (by simp only [execOp]) (ext_ok (ev_rep h hc.1) hc.2)
 case load t x => exact val_of (by simp only [execOp]) (load_ok hT h.heap hc.1.1 (ev_rep h hc.1.2) hc.2)
 case field t x f => exact val_of (by simp only [execOp]) (field_ok hT (ev_rep h hc.1) hc.2)
 case fieldAddr t x f => exact val_of (by simp only [execOp]) (fieldAddr_ok hT (ev_rep h hc.1) hc.2)
 case build t ps =>
  obtain ⟨h1, h2⟩ := hc
  refine val_of (s := Instr.build t (ps.map fun (i, x) => (i, a.eval x))) (by simp only [execOp]) (buildS_ok hT (by simp) (fun q p v hp hv => ?_) h2)
  rw [List.getElem?_map, Array.getElem?_toList] at hp
  rw [Array.getElem?_map] at hv
  cases hq : ps[q]? with
  | none => rw [hq] at hp; cases hp
  | some y =>
   rw [hq] at hp hv
   simp at hp hv
   subst hp hv
   exact ⟨rfl, ev_rep h ((List.all_eq_true.1 h1) y (by simpa using Array.mem_of_getElem? hq))⟩
 case convert s d x =>
  split at hc
  ·rename_i k k' n hd hx
   simp only [Bool.and_eq_true, inb_iff] at hc
   obtain ⟨⟨h1, h2⟩, h3⟩ := hc
   have hr := ev_rep h h1
   rw [hx] at hr
   obtain ⟨hv, _⟩ := int_inv hr
   refine val_of (s := convert s d (a.eval x)) (by simp only [execOp]) ⟨.int k n, fun w _ => ?_, .int _ _ h3.1 h3.2⟩
   have hsrc : ∃ q, P.underlying s = some q := by
    have := hT s; unfold RowOk at this; unfold known at h2
    split at this
    ·rename_i hd; rw [hd] at h2; cases h2
    all_goals first | exact ⟨_, this.1⟩ | exact ⟨_, this.1.choose_spec.1⟩
   obtain ⟨q, hq⟩ := hsrc
   rw [hv]
   have hdu := int_under hT hd
   have := run_convert_int (P := P) w s d k' n (by rw [hq]; rfl) (by rw [hdu]; simp [Program.intKind, hdu])
   rw [this]
   simp [Program.intKind, hdu, wrap_in h3.1 h3.2]
  ·rename_i hd
   simp only [Bool.and_eq_true] at hc
   exact val_of (by simp only [execOp]) (byteStr_ok hT h.heap hd (ev_rep h hc.1) hc.2)
  ·cases hc
 case indexAddr t x i =>
  split at hc
  ·rename_i e hd
   simp only [Bool.and_eq_true] at hc
   obtain ⟨⟨⟨h1, h2⟩, h3⟩, h4⟩ := hc
   exact val_of (by simp only [execOp]) (idxA_ok hT h.heap hd h1 (ev_rep h h2) (ev_rep h h3) h4)
  ·cases hc
 case index t x i =>
  split at hc
  ·rename_i hd
   simp only [Bool.and_eq_true] at hc
   obtain ⟨⟨h2, h3⟩, h4⟩ := hc
   exact val_of (by simp only [execOp]) (str_ok hT hd (ev_rep h h2) (ev_rep h h3) h4)
  ·cases hc
 case makeFunc fn first caps =>
  cases fn <;> simp only [Bool.false_eq_true, Bool.and_eq_true, decide_eq_true_eq, List.all_eq_true] at hc ⊢
  rename_i f
  obtain ⟨h1, h2⟩ := hc
  have hf : first = #[] := by simpa using h1
  subst hf
  refine ⟨.func (.func f) #[] (caps.map a.eval), fun w _ => by simp [execOp, Instr.makeFunc], .func _ _ _ (by simp) (fun i x v hx hv => ?_)⟩
  rw [List.getElem?_map, Array.getElem?_toList] at hx
  rw [Array.getElem?_map] at hv
  cases hq : caps[i]? with
  | none => rw [hq] at hx; cases hx
  | some q =>
   rw [hq] at hx hv
   simp at hx hv
   subst hx hv
   exact ev_rep h (h2 q (by simpa using Array.mem_of_getElem? hq))
 case slice t x l hh m =>
  cases m with
  | some _ => simp only [Bool.false_eq_true] at hc
  | none =>
   simp only at hc ⊢
   split at hc
   ·rename_i e hd
    simp only [Bool.and_eq_true] at hc
    obtain ⟨⟨⟨⟨⟨h1, h2⟩, h3⟩, h4⟩, h5⟩, h6⟩ := hc
    refine val_of (s := Instr.sliceAt t (a.eval x) (l.map a.eval) (hh.map a.eval) none) (by simp only [execOp, Option.map_none]) (slice_ok hT hd h1 (ev_rep h h3) (fun k xs he => ?_) (fun y hy => ?_) (fun hn => ?_) (fun y hy => ?_) (fun hn => ?_) (by simpa using h6))
    ·rw [he] at h2; simpa using h2
    ·cases l with
     | none => cases hy
     | some q => simp at hy; subst hy; exact ⟨_, rfl, ev_rep h (by simpa using h4)⟩
    ·cases l with
     | none => rfl
     | some q => cases hn
    ·cases hh with
     | none => cases hy
     | some q => simp at hy; subst hy; exact ⟨_, rfl, ev_rep h (by simpa using h5)⟩
    ·cases hh with
     | none => rfl
     | some q => cases hn
   ·cases hc
 case call c =>
  obtain ⟨callee, args, argTypes⟩ := c
  cases callee <;> simp only [Bool.false_eq_true] at hc ⊢
  rename_i b
  cases b <;> simp only [Bool.false_eq_true] at hc ⊢
  case len =>
   split at hc
   ·rename_i x t hx ht
    simp only [Bool.and_eq_true] at hc
    obtain ⟨⟨h1, h2⟩, h3⟩ := hc
    have ha : args = #[x] := by apply Array.toList_inj.1; simpa using hx
    have ht' : argTypes = #[t] := by apply Array.toList_inj.1; simpa using ht
    subst ha ht'
    have h56 := fun w => len_ok (w := w) (ty := type) hT (ev_rep h h2) h1 (by simpa using h3)
    have h6 := (h56 w).2
    refine ⟨.int .i64 (lenA (sv (opd st.s x))).2, fun w _ => by simp [execOp, resolve, invoke, builtin, (h56 w).1], .int _ _ (by simp only [lo]; omega) (by simp only [hi, maxLen] at *; omega)⟩
   ·cases hc
  all_goals
   simp only [Bool.and_eq_true, List.all_eq_true] at hc
   obtain ⟨h1, h2⟩ := hc
   have hlist : ∀ (i : Nat) (x : AVal) (v : Value), (args.toList.map fun x => sv (opd st.s x))[i]? = some x → (args.toList.map a.eval)[i]? = some v → RepV F φ x v := fun i x v hx hv => by
    rw [List.getElem?_map] at hx hv
    cases hq : args.toList[i]? with
    | none => rw [hq] at hx; cases hx
    | some q =>
     rw [hq] at hx hv
     simp at hx hv
     subst hx hv
     exact ev_rep h (h1 q (List.mem_of_getElem? hq))
   have hargs : args.map a.eval = (args.toList.map a.eval).toArray := by apply Array.toList_inj.1; simp
  ·obtain ⟨u, hu, hr⟩ := max_ok (P := P) (w := w) (ts := argTypes) (ty := type) (by simp) hlist true h2
   refine ⟨u, fun w hw => ?_, hr⟩
   simp only [cond_true] at hu
   simp [execOp, resolve, invoke, builtin, hargs, hu w hw]
  ·obtain ⟨u, hu, hr⟩ := max_ok (P := P) (w := w) (ts := argTypes) (ty := type) (by simp) hlist false h2
   refine ⟨u, fun w hw => ?_, hr⟩
   simp only [cond_false] at hu
   simp [execOp, resolve, invoke, builtin, hargs, hu w hw]
end
end Go.AX
set_option linter.unusedSimpArgs false
set_option linter.unusedVariables false
namespace Go.AX
open Go Go.RowKit
section
variable {P : Program} {T : Tab} {F : Fz} {φ : Phi} {w0 : World} {st : St} {a : Act} {w : World}
theorem Blk.ext_lt {H : List (Option Blk)} {id : Nat} {b : Blk} (h : H[id]? = some (some b)) : id < H.length := by
 rcases Nat.lt_or_ge id H.length with q | q
 ·exact q
 ·rw [List.getElem?_eq_none q] at h; cases h
theorem BlkOk.leO {F' : Fz} {φ' : Phi} {base : Nat} {w w' : World} {id : Nat} {b : Blk} (h : BlkOk F φ base w id b) (hF : FLe F F') (hφ : PLe φ φ') (hN : ∀ g, (φ id).occ g → base ≤ g → F g = none → g < w.heap.size → F' g = none)
  (hw : ∀ x, (φ id).occ x → w'.heap[x]? = w.heap[x]?) : BlkOk F' φ' base w' id b := by
 rcases h with ⟨h1, h2⟩ | ⟨g, cap, cur, h1, h2, h3, h4, h5, h6, h7, h8⟩ | hX
 ·exact .inl ⟨by rw [hφ id (by rw [h1]; simp), h1], h2⟩
 ·refine .inr (.inl ⟨g, cap, cur, by rw [hφ id (by rw [h1]; simp), h1], h2, hN g (by rw [h1]; rfl) h2 h3 ?_, by rw [hw g (by rw [h1]; rfl)]; exact h4, h5, h6, h7, fun i e hi => ⟨(h8 i e hi).1, fun j x hj => ?_⟩⟩)
  ·exact (Array.getElem?_eq_some_iff.1 h4).1
  ·obtain ⟨u, q1, q2, q3⟩ := (h8 i e hi).2 j x hj
   exact ⟨u, q1, q2.le hF hφ, q3⟩
 ·refine .inr (.inr (hX.le (hφ id fun hu => ?_) (fun x hx => ?_) hw))
  ·cases b <;> first | exact hX | (obtain ⟨_, q, _⟩ := hX; rw [hu] at q; cases q)
  ·obtain ⟨z1, z2, o, z3⟩ := hX.occ hx
   exact ⟨z1, hN x hx z1 z2 (Array.getElem?_eq_some_iff.1 z3).1⟩
theorem BlkOk.le {F' : Fz} {φ' : Phi} {base : Nat} {w w' : World} {id : Nat} {b : Blk} (h : BlkOk F φ base w id b) (hF : FLe F F') (hφ : PLe φ φ') (hN : ∀ g, base ≤ g → F g = none → g < w.heap.size → F' g = none)
  (hw : ∀ x, (φ id).occ x → w'.heap[x]? = w.heap[x]?) : BlkOk F' φ' base w' id b := h.leO hF hφ (fun g _ => hN g) hw
theorem RelH.lt {base : Nat} {H : List (Option Blk)} (h : RelH F φ base H w) {b : Nat} {o : Obj} (hb : F b = some o) : b < w.heap.size := by
 have := h.agree b o hb
 exact (Array.getElem?_eq_some_iff.1 this).1
theorem RelH.new_none {base : Nat} {H : List (Option Blk)} (h : RelH F φ base H w) : F w.heap.size = none := by
 cases hF : F w.heap.size with
 | none => rfl
 | some o => have := h.lt hF; omega
def upd (φ : Phi) (id : Nat) (l : Loc) : Phi := fun i => if i = id then l else φ i
theorem upd_le {base : Nat} {H : List (Option Blk)} (h : RelH F φ base H w) (l : Loc) : PLe φ (upd φ H.length l) := fun id hu => by
 unfold upd
 split
 ·rename_i e; subst e; exact absurd (h.unused _ (Nat.le_refl _)) hu
 ·rfl
/-- A new block of the call's own. -/
theorem RelH.alloc {base : Nat} {H : List (Option Blk)} (h : RelH F φ base H w) (hbase : base ≤ w.heap.size) (b : Blk) (cur : Array Value) (cap : Nat) (hcap : b.es.length ≤ cap) (hmax : cap ≤ maxLen) (hsz : cur.size = cap * b.sz)
  (hes : ∀ (i : Nat) (e : List AVal), b.es[i]? = some e → e.length = b.sz ∧ ∀ (j : Nat) (x : AVal), e[j]? = some x → ∃ u, cur[i * b.sz + j]? = some u ∧ RepV F φ x u ∧ u.oneCell' = true) (hp : b.np = true) :
  RelH F (upd φ H.length (.at w.heap.size cap b.sz b.et)) base (H ++ [some b]) (w.alloc (.cells cur b.et)) ∧ PLe φ (upd φ H.length (.at w.heap.size cap b.sz b.et)) := by
 have hle := upd_le h (.at w.heap.size cap b.sz b.et)
 refine ⟨⟨fun b' o hb => ?_, fun id hid => ?_, fun id b' hb => ?_, fun i j bi bj g hi hj h1 h2 => ?_, h.good, fun j i l hj => by
  rw [List.getElem?_append] at hj
  split at hj
  ·have := h.pins j i l hj; exact ⟨by rw [hle i (by rw [this.1]; exact this.2)]; exact this.1, this.2⟩
  ·rename_i hge
   match hm : j - H.length, hj with
   | 0, hj => simp only [List.getElem?_cons_zero, Option.some.injEq] at hj; subst hj; cases hp
   | k + 1, hj => simp at hj⟩, hle⟩
 ·exact (Below.heap_alloc w _ b' (h.lt hb)).trans (h.agree b' o hb)
 ·simp only [List.length_append, List.length_cons, List.length_nil] at hid
  unfold upd
  rw [if_neg (by omega)]
  exact h.unused id (by omega)
 ·rw [List.getElem?_append] at hb
  split at hb
  ·exact (h.blk id b' hb).le (FLe.refl F) hle (fun g _ hg _ => hg) fun x hx => Below.heap_alloc w _ x (h.occ_lt hb hx)
  ·rename_i hge
   have hid : id = H.length := by
    rcases Nat.lt_or_ge id (H.length + 1) with q | q
    ·omega
    ·rw [List.getElem?_eq_none (by simp; omega)] at hb; cases hb
   subst hid
   simp at hb; subst hb
   refine .inr (.inl ⟨w.heap.size, cap, cur, by simp [upd], hbase, h.new_none, heap_alloc_new w _, hcap, hmax, hsz, fun i e hi => ⟨(hes i e hi).1, fun j x hj => ?_⟩⟩)
   obtain ⟨u, q1, q2, q3⟩ := (hes i e hi).2 j x hj
   exact ⟨u, q1, q2.le (FLe.refl F) hle, q3⟩
 ·have key : ∀ (k : Nat) (bk : Blk) (g' : Nat), (H ++ [some b])[k]? = some (some bk) → (upd φ H.length (.at w.heap.size cap b.sz b.et) k).occ g' → (k < H.length ∧ H[k]? = some (some bk) ∧ (φ k).occ g' ∧ g' < w.heap.size) ∨ (k = H.length ∧ g' = w.heap.size) := by
   intro k bk g' hk hu
   rw [List.getElem?_append] at hk
   unfold upd at hu
   split at hk
   ·rename_i hlt
    rw [if_neg (by omega)] at hu
    exact .inl ⟨hlt, hk, hu, h.occ_lt hk hu⟩
   ·have hid : k = H.length := by
     rcases Nat.lt_or_ge k (H.length + 1) with q | q
     ·omega
     ·rw [List.getElem?_eq_none (by simp; omega)] at hk; cases hk
    rw [if_pos hid] at hu
    exact .inr ⟨hid, hu⟩
  rcases key i bi g hi h1 with ⟨_, a1, a2, a3⟩ | ⟨a1, a2⟩ <;> rcases key j bj g hj h2 with ⟨_, b1, b2, b3⟩ | ⟨b1, b2⟩
  ·exact h.sep i j bi bj g a1 b1 a2 b2
  ·omega
  ·omega
  ·omega
theorem Rel.alloc (h : Rel F φ w0 st a w) (b : Blk) (cur : Array Value) (cap : Nat) (hcap : b.es.length ≤ cap) (hmax : cap ≤ maxLen) (hsz : cur.size = cap * b.sz)
  (hes : ∀ (i : Nat) (e : List AVal), b.es[i]? = some e → e.length = b.sz ∧ ∀ (j : Nat) (x : AVal), e[j]? = some x → ∃ u, cur[i * b.sz + j]? = some u ∧ RepV F φ x u ∧ u.oneCell' = true) (hp : b.np = true) :
  Rel F (upd φ st.h.length (.at w.heap.size cap b.sz b.et)) w0 { st with h := st.h ++ [some b] } a (w.alloc (.cells cur b.et)) := by
 obtain ⟨h1, h2⟩ := h.heap.alloc h.below.size b cur cap hcap hmax hsz hes hp
 exact ⟨h1, h.size, fun i => (h.slots i).le (FLe.refl F) h2, h.defers, h.below.alloc h.below.size _⟩
/-- The block that a variable of one value is. -/
def blk1 (et : TypeId) (sz : Nat) : AVal → Option Blk
 | .int k n => if sz = 1 then some (.ints et k [n]) else none
 | x => match cellsA x with
  | some l => if l.length = sz then some (.gen et sz [l]) else none
  | none => none
theorem blk1_rep {et : TypeId} {sz : Nat} {x : AVal} {v : Value} {b : Blk} (hr : RepV F φ x v) (hb : blk1 et sz x = some b) :
  b.et = et ∧ b.sz = sz ∧ b.es.length = 1 ∧ v.cells.size = 1 * b.sz ∧ ∀ (i : Nat) (e : List AVal), b.es[i]? = some e → e.length = b.sz ∧ ∀ (j : Nat) (x : AVal), e[j]? = some x → ∃ u, v.cells[i * b.sz + j]? = some u ∧ RepV F φ x u ∧ u.oneCell' = true := by
 have gen : ∀ {l : List AVal}, cellsA x = some l → l.length = sz → v.cells.size = 1 * sz ∧ ∀ (i : Nat) (e : List AVal), [l][i]? = some e → e.length = sz ∧ ∀ (j : Nat) (y : AVal), e[j]? = some y → ∃ u, v.cells[i * sz + j]? = some u ∧ RepV F φ y u ∧ u.oneCell' = true := by
  intro l hl hs
  obtain ⟨q1, q2⟩ := cells_rep hr hl
  refine ⟨by omega, fun i e he => ?_⟩
  match i, he with
  | 0, he =>
   simp at he; subst he
   exact ⟨hs, fun j y hy => by simpa using q2 j y hy⟩
 unfold blk1 at hb
 split at hb
 ·rename_i k n
  split at hb
  ·rename_i hs
   injection hb with e; subst e
   have := gen (l := [.int k n]) rfl (by simp [hs])
   subst hs
   exact ⟨rfl, rfl, rfl, this.1, by simpa [Blk.es, intEs, Blk.sz] using this.2⟩
  ·cases hb
 ·split at hb
  ·rename_i l hl
   split at hb
   ·rename_i hs
    injection hb with e; subst e
    have := gen hl hs
    exact ⟨rfl, rfl, rfl, this.1, this.2⟩
   ·cases hb
  ·cases hb
/-- A new variable with this value. -/
theorem blk1_np {et : TypeId} {sz : Nat} {x : AVal} {b : Blk} (hb : blk1 et sz x = some b) : b.np = true := by
 unfold blk1 at hb
 split at hb
 ·split at hb
  ·injection hb with e; subst e; rfl
  ·cases hb
 ·split at hb
  ·split at hb
   ·injection hb with e; subst e; rfl
   ·cases hb
  ·cases hb
theorem newVar_ok (h : Rel F φ w0 st a w) {et : TypeId} {sz : Nat} {x : AVal} {v : Value} {b : Blk} (hr : RepV F φ x v) (hb : blk1 et sz x = some b) {d : Nat} (hd : d < st.n) :
  ∃ φ', (newVar et v).run P w = .ok ⟨w.heap.size, 0, none⟩ (w.alloc (.cells v.cells et)) ∧ Rel F φ' w0 { st with s := putL st.s d (.ptr st.h.length 0 0), h := st.h ++ [some b] } (a.put (some d) (.pointer (some ⟨w.heap.size, 0, none⟩))) (w.alloc (.cells v.cells et)) := by
 obtain ⟨q1, q2, q3, q4, q5⟩ := blk1_rep hr hb
 have := h.alloc b v.cells 1 (by omega) (by unfold maxLen; omega) (by simpa using q4) q5 (blk1_np hb)
 rw [q1] at this
 have hrun : (newVar et v).run P w = .ok ⟨w.heap.size, 0, none⟩ (w.alloc (.cells v.cells et)) := by
  simp only [newVar, newRow, newObj, Sem.run_bind]; rfl
 refine ⟨upd φ st.h.length (.at w.heap.size 1 b.sz et), hrun, ?_⟩
 refine Rel.put (st := { st with h := st.h ++ [some b] }) this hd ?_
 have hp := RepV.ptr (F := F) (φ := upd φ st.h.length (.at w.heap.size 1 b.sz et)) st.h.length 0 0 w.heap.size 1 b.sz et (by simp [upd])
 simpa using hp
/-- One block of the call's own has turned, nothing else. -/
theorem RelH.turn {base : Nat} {H : List (Option Blk)} (h : RelH F φ base H w) {w' : World} {id : Nat} {b b' : Blk} (hb : H[id]? = some (some b)) {g cap : Nat} {cur' : Array Value} (hφ : φ id = .at g cap b.sz b.et)
  (hsz : b'.sz = b.sz) (het : b'.et = b.et) (hw : w'.heap[g]? = some (.cells cur' b.et (0, 0))) (hother : ∀ k, k ≠ g → w'.heap[k]? = w.heap[k]?) (hlen : b'.es.length ≤ cap) (hcur : cur'.size = cap * b.sz)
  (hes : ∀ (i : Nat) (e : List AVal), b'.es[i]? = some e → e.length = b.sz ∧ ∀ (j : Nat) (x : AVal), e[j]? = some x → ∃ u, cur'[i * b.sz + j]? = some u ∧ RepV F φ x u ∧ u.oneCell' = true) (hp : b'.np = true) :
  RelH F φ base (H.set id (some b')) w' := by
 have hold := h.blk id b hb
 have hFg : F g = none ∧ base ≤ g ∧ cap ≤ maxLen := by
  rcases hold.atC hφ with ⟨q, _⟩ | ⟨g', cap', cur, q, q1, q2, _, _, q3, _⟩
  ·rw [hφ] at q; cases q
  ·rw [hφ] at q; injection q with e1 e2; subst e1 e2; exact ⟨q2, q1, q3⟩
 have hlt := Blk.ext_lt hb
 refine ⟨fun b2 o hF => ?_, fun id' hid => h.unused id' (by simpa using hid), fun id' b2 hb2 => ?_, fun i j bi bj g' hi hj h1 h2 => ?_, h.good, fun j i l hj => by
  by_cases hid : j = id
  ·subst hid
   rw [List.getElem?_set_self hlt] at hj
   simp only [Option.some.injEq] at hj; subst hj; cases hp
  ·rw [List.getElem?_set_ne (Ne.symm hid)] at hj; exact h.pins j i l hj⟩
 ·rw [hother b2 (by rintro rfl; rw [hFg.1] at hF; cases hF)]; exact h.agree b2 o hF
 ·by_cases hid : id' = id
  ·subst hid
   rw [List.getElem?_set_self hlt] at hb2
   simp at hb2; subst hb2
   exact .inr (.inl ⟨g, cap, cur', by rw [hsz, het]; exact hφ, hFg.2.1, hFg.1, by rw [het]; exact hw, hlen, hFg.2.2, by rw [hsz]; exact hcur, by rw [hsz]; exact hes⟩)
  ·rw [List.getElem?_set_ne (Ne.symm hid)] at hb2
   refine (h.blk id' b2 hb2).le (FLe.refl F) (PLe.refl φ) (fun g _ hg _ => hg) fun g2 hg => hother g2 ?_
   rintro rfl
   exact hid (h.sep id' id b2 b g2 hb2 hb hg (by rw [hφ]; rfl))
 ·have key : ∀ (k : Nat) (bk : Blk), (H.set id (some b'))[k]? = some (some bk) → ∃ bk', H[k]? = some (some bk') := by
   intro k bk hk
   by_cases hid : k = id
   ·subst hid; exact ⟨b, hb⟩
   ·rw [List.getElem?_set_ne (Ne.symm hid)] at hk; exact ⟨bk, hk⟩
  obtain ⟨bi', hi'⟩ := key i bi hi
  obtain ⟨bj', hj'⟩ := key j bj hj
  exact h.sep i j bi' bj' g' hi' hj' h1 h2
/-- A block of the call's own is given up. -/
theorem RelH.kill {base : Nat} {H : List (Option Blk)} (h : RelH F φ base H w) (id : Nat) : RelH F φ base (H.set id none) w := by
 refine ⟨h.agree, fun id' hid => h.unused id' (by simpa using hid), fun id' b2 hb2 => ?_, fun i j bi bj g' hi hj h1 h2 => ?_, h.good, fun j i l hj => by
  by_cases hid : j = id
  ·subst hid
   rcases Nat.lt_or_ge j H.length with q | q
   ·rw [List.getElem?_set_self q] at hj; simp at hj
   ·rw [List.getElem?_eq_none (by simpa using q)] at hj; cases hj
  ·rw [List.getElem?_set_ne (Ne.symm hid)] at hj; exact h.pins j i l hj⟩
 ·by_cases hid : id' = id
  ·subst hid
   rcases Nat.lt_or_ge id' H.length with q | q
   ·rw [List.getElem?_set_self q] at hb2; simp at hb2
   ·rw [List.getElem?_eq_none (by simpa using q)] at hb2; cases hb2
  ·rw [List.getElem?_set_ne (Ne.symm hid)] at hb2; exact h.blk id' b2 hb2
 ·have key : ∀ (k : Nat) (bk : Blk), (H.set id none)[k]? = some (some bk) → H[k]? = some (some bk) := by
   intro k bk hk
   by_cases hid : k = id
   ·subst hid
    rcases Nat.lt_or_ge k H.length with q | q
    ·rw [List.getElem?_set_self q] at hk; simp at hk
    ·rw [List.getElem?_eq_none (by simpa using q)] at hk; cases hk
   ·rw [List.getElem?_set_ne (Ne.symm hid)] at hk; exact hk
  exact h.sep i j bi bj g' (key i bi hi) (key j bj hj) h1 h2
def storeB (b : Blk) (i j : Nat) (x : AVal) : Bool × Blk :=
 match b with
 | .ints et k xs => match x with
  | .int k' n => (decide (k = k') && decide (j = 0) && decide (i < xs.length), .ints et k (xs.set i n))
  | _ => (false, b)
 | .pin _ _ => (false, b)
 | .xo _ => (false, b)
 | .rows _ _ _ => (false, b)
 | .outs et rid n f len => match x with
  | .row r a l => (decide (r = rid) && decide (j = 0) && decide (i < n), .outs et rid n (fun m => if m = i then some a else f m) (fun m => if m = i then l else len m))
  | _ => (false, b)
 | .gen et sz es => match cellsA x with
  | some l => (decide (i < es.length) && decide (j + l.length ≤ sz), .gen et sz (es.set i ((es.getD i []).take j ++ l ++ (es.getD i []).drop (j + l.length))))
  | none => (false, b)
theorem mid_get (cur : List Value) (o : Nat) (vs : List Value) (h : o + vs.length ≤ cur.length) (m : Nat) :
  (cur.take o ++ vs ++ cur.drop (o + vs.length))[m]? = if o ≤ m ∧ m < o + vs.length then vs[m - o]? else cur[m]? := by
 rw [List.append_assoc, List.getElem?_append, List.getElem?_append, List.length_take, Nat.min_eq_left (by omega)]
 by_cases h1 : m < o
 ·rw [if_pos h1, if_neg (by omega), List.getElem?_take, if_pos h1]
 ·rw [if_neg h1]
  by_cases h2 : m - o < vs.length
  ·rw [if_pos h2, if_pos (by omega)]
  ·rw [if_neg h2, if_neg (by omega), List.getElem?_drop]; congr 1; omega
theorem mid_getA (cur : List AVal) (o : Nat) (vs : List AVal) (h : o + vs.length ≤ cur.length) (m : Nat) :
  (cur.take o ++ vs ++ cur.drop (o + vs.length))[m]? = if o ≤ m ∧ m < o + vs.length then vs[m - o]? else cur[m]? := by
 rw [List.append_assoc, List.getElem?_append, List.getElem?_append, List.length_take, Nat.min_eq_left (by omega)]
 by_cases h1 : m < o
 ·rw [if_pos h1, if_neg (by omega), List.getElem?_take, if_pos h1]
 ·rw [if_neg h1]
  by_cases h2 : m - o < vs.length
  ·rw [if_pos h2, if_pos (by omega)]
  ·rw [if_neg h2, if_neg (by omega), List.getElem?_drop]; congr 1; omega
theorem row_ne {i i' s j j' : Nat} (hj : j < s) (hj' : j' < s) (hi : i ≠ i') : i * s + j ≠ i' * s + j' := by
 intro h
 have h1 : (i * s + j) / s = i := by rw [Nat.mul_comm, Nat.mul_add_div (by omega), Nat.div_eq_of_lt hj]; rfl
 have h2 : (i' * s + j') / s = i' := by rw [Nat.mul_comm, Nat.mul_add_div (by omega), Nat.div_eq_of_lt hj']; rfl
 rw [h] at h1; omega
/-- The cells of a block in which some have been overwritten. -/
theorem gen_cells {sz : Nat} {es : List (List AVal)} {cur vs : Array Value} {l : List AVal} {i j cap : Nat} (hcur : cur.size = cap * sz) (hlen : es.length ≤ cap) (hi : i < es.length) (hj : j + l.length ≤ sz) (hvs : vs.size = l.length)
  (hes : ∀ (i : Nat) (e : List AVal), es[i]? = some e → e.length = sz ∧ ∀ (j : Nat) (x : AVal), e[j]? = some x → ∃ u, cur[i * sz + j]? = some u ∧ RepV F φ x u ∧ u.oneCell' = true)
  (hl : ∀ (j : Nat) (x : AVal), l[j]? = some x → ∃ u, vs[j]? = some u ∧ RepV F φ x u ∧ u.oneCell' = true) :
  ∀ (i' : Nat) (e : List AVal), (es.set i ((es.getD i []).take j ++ l ++ (es.getD i []).drop (j + l.length)))[i']? = some e → e.length = sz ∧
   ∀ (j' : Nat) (x : AVal), e[j']? = some x → ∃ u, (cur.toList.take (i * sz + j) ++ vs.toList ++ cur.toList.drop (i * sz + j + vs.toList.length)).toArray[i' * sz + j']? = some u ∧ RepV F φ x u ∧ u.oneCell' = true := by
 intro i' e he
 have hei : es[i]? = some (es.getD i []) := by rw [List.getD_eq_getElem?_getD, List.getElem?_eq_getElem hi]; rfl
 have hlen_i := (hes i _ hei).1
 have hbound : i * sz + sz ≤ cap * sz := by rw [← Nat.succ_mul]; exact Nat.mul_le_mul_right _ (by omega)
 have hmid : ∀ m, ((cur.toList.take (i * sz + j) ++ vs.toList ++ cur.toList.drop (i * sz + j + vs.toList.length)).toArray)[m]? = if i * sz + j ≤ m ∧ m < i * sz + j + vs.toList.length then vs.toList[m - (i * sz + j)]? else cur.toList[m]? := fun m => by
  rw [List.getElem?_toArray]; exact mid_get _ _ _ (by simp; omega) m
 have hvl : vs.toList.length = l.length := by simpa using hvs
 by_cases hii : i' = i
 ·subst hii
  rw [List.getElem?_set_self hi] at he
  simp only [Option.some.injEq] at he
  subst he
  refine ⟨by simp only [List.length_append, List.length_take, List.length_drop]; omega, fun j' x hx => ?_⟩
  rw [mid_getA _ _ _ (by omega)] at hx
  rw [hmid]
  by_cases hin : j ≤ j' ∧ j' < j + l.length
  ·rw [if_pos hin] at hx
   obtain ⟨u, q1, q2⟩ := hl _ x hx
   exact ⟨u, by rw [if_pos (by omega), show i' * sz + j' - (i' * sz + j) = j' - j by omega, Array.getElem?_toList]; exact q1, q2⟩
  ·rw [if_neg hin] at hx
   obtain ⟨u, q1, q2⟩ := (hes i' _ hei).2 j' x hx
   exact ⟨u, by rw [if_neg (by omega), Array.getElem?_toList]; exact q1, q2⟩
 ·rw [List.getElem?_set_ne (Ne.symm hii)] at he
  refine ⟨(hes i' e he).1, fun j' x hx => ?_⟩
  obtain ⟨u, q1, q2⟩ := (hes i' e he).2 j' x hx
  have hj' : j' < sz := by
   have := (hes i' e he).1
   rcases Nat.lt_or_ge j' e.length with q | q
   ·omega
   ·rw [List.getElem?_eq_none q] at hx; cases hx
  refine ⟨u, ?_, q2⟩
  rw [hmid, if_neg, Array.getElem?_toList]; exact q1
  rintro ⟨r1, r2⟩
  rw [hvl] at r2
  obtain ⟨d, hd⟩ : ∃ d, i' * sz + j' = i * sz + (j + d) ∧ d < l.length := ⟨i' * sz + j' - (i * sz + j), by omega, by omega⟩
  exact row_ne hj' (show j + d < sz by omega) hii hd.1
theorem store_ok (hT : TabOk P T) (h : Rel F φ w0 st a w) {t : TypeId} (hk : known (T t) = true) {id i j : Nat} {x : AVal} {b : Blk} {l : List AVal} {p v : Value} (hp : RepV F φ (.ptr id i j) p) (hr : RepV F φ x v)
  (hb : getB st.h id = some b) (hl : cellsA x = some l) (hsz : (T t).sz = l.length) (hc : (storeB b i j x).1 = true) :
  ∃ w', (Instr.storeAt t p v).run P w = .ok () w' ∧ Rel F φ w0 { st with h := st.h.set id (some (storeB b i j x).2) } a w' := by
 cases hp with | ptr _ _ _ g cap sz et hφ => ?_
 have hbH := getB_some hb
 rcases (h.heap.blk id b hbH).atC hφ with ⟨q, _⟩ | ⟨g', cap', cur, q, q1, q2, q3, q4, q5, q6, q7⟩
 ·rw [hφ] at q; cases q
 rw [hφ] at q
 injection q with e1 e2 e3 e4
 subst e1 e2 e3 e4
 obtain ⟨r1, r2⟩ := cells_rep hr hl
 -- in the general form
 have hgen : i < b.es.length ∧ j + l.length ≤ b.sz ∧ (storeB b i j x).2.es = b.es.set i ((b.es.getD i []).take j ++ l ++ (b.es.getD i []).drop (j + l.length)) ∧ (storeB b i j x).2.sz = b.sz ∧ (storeB b i j x).2.et = b.et := by
  cases b with
  | ints et k xs =>
   cases x <;> simp only [storeB, Bool.false_eq_true, Bool.and_eq_true, decide_eq_true_eq] at hc
   rename_i k' n
   obtain ⟨⟨rfl, rfl⟩, hi⟩ := hc
   simp [cellsA, one1] at hl
   subst hl
   have : ((intEs k xs).getD i []) = [.int k (xs.getD i 0)] := by simp [intEs, List.getD_eq_getElem?_getD, List.getElem?_eq_getElem hi]
   refine ⟨by simpa [Blk.es, intEs] using hi, by simp [Blk.sz], ?_, rfl, rfl⟩
   simp only [Blk.es, storeB, this]
   simp [intEs, List.map_set]
  | pin _ _ => simp [storeB] at hc
  | xo _ => simp [storeB] at hc
  | rows _ _ _ => simp [storeB] at hc
  | outs et rid n f len =>
   cases x <;> simp only [storeB, Bool.false_eq_true, Bool.and_eq_true, decide_eq_true_eq] at hc
   rename_i r a l'
   obtain ⟨⟨rfl, rfl⟩, hi⟩ := hc
   simp [cellsA, one1] at hl
   subst hl
   have hg : ((fnEs n (outE r f len)).getD i []) = outE r f len i := by simp [fnEs, List.getD_eq_getElem?_getD, hi]
   refine ⟨by simpa [Blk.es, fnEs] using hi, by simp [Blk.sz], ?_, rfl, rfl⟩
   simp only [Blk.es, storeB, hg]
   refine List.ext_getElem (by simp [fnEs]) fun m m1 m2 => ?_
   simp only [fnEs, List.getElem_map, List.getElem_range, List.getElem_set]
   by_cases e : i = m
   ·subst e; simp [outE]
   ·rw [if_neg e]; simp [outE, Ne.symm e]
  | gen et sz es =>
   simp only [storeB, hl, Bool.and_eq_true, decide_eq_true_eq] at hc ⊢
   exact ⟨hc.1, hc.2, rfl, rfl, rfl⟩
 have hnp : (storeB b i j x).2.np = true := by
  cases b with
  | ints et k xs => cases x <;> rfl
  | pin _ _ => simp [storeB] at hc
  | xo _ => simp [storeB] at hc
  | rows _ _ _ => simp [storeB] at hc
  | outs et rid n f len => cases x <;> rfl
  | gen et sz es => simp only [storeB, hl]; rfl
 obtain ⟨g1, g2, g3, g4, g5⟩ := hgen
 have hbound : i * b.sz + b.sz ≤ cap * b.sz := by rw [← Nat.succ_mul]; exact Nat.mul_le_mul_right _ (by omega)
 have hone : ∀ u ∈ v.cells.toList, u.oneCell' = true := by
  intro u hu
  obtain ⟨m, hm, rfl⟩ := List.getElem_of_mem hu
  have hm' : m < l.length := by simpa [r1] using hm
  obtain ⟨u', e1, _, e2⟩ := r2 m _ (List.getElem?_eq_getElem hm')
  rw [Array.getElem_toList]
  rw [Array.getElem?_eq_getElem (by omega)] at e1
  injection e1 with e1; rw [e1]; exact e2
 have hst := run_storeCells_at P g (i * b.sz + j) b.et v.cells.toList 0 cur w q3 (by simp only [Array.length_toList]; omega) hone
 simp only [Nat.add_zero] at hst
 have hrun : (Instr.storeAt t (.pointer (some ⟨g, i * b.sz + j, none⟩)) v).run P w = .ok () (w.setRow g (cur.toList.take (i * b.sz + j) ++ v.cells.toList ++ cur.toList.drop (i * b.sz + j + v.cells.toList.length)).toArray) := by
  rw [← hst]
  simp [Instr.storeAt, Instr.sureAddr, storeVar, size_run hT hk, hsz, r1]
 refine ⟨_, hrun, ?_, h.size, h.slots, h.defers, ?_⟩
 ·refine h.heap.turn hbH hφ g4 g5 (setRow_heap w g cur _ b.et _ q3) (fun k hk => setRow_other w g k _ hk) (by rw [g3]; simpa using q4) ?_ ?_ ?_
  ·simp only [List.size_toArray, List.length_append, List.length_take, List.length_drop, Array.length_toList]; omega
  ·rw [g3]; exact gen_cells q6 q4 g1 g2 r1 q7 r2
  ·exact hnp
 ·exact h.below.trans ⟨rfl, rfl, rfl, by simp [World.setRow], fun k hk => setRow_other w g k _ (by omega)⟩
theorem RelH.turnRow {base : Nat} {H : List (Option Blk)} (h : RelH F φ base H w) {w' : World} {id : Nat} {et : TypeId} {k : IntKind} {X : List (List Int)} (hb : H[id]? = some (some (.rows et k X))) {gs : List (Option (Nat × Nat))} (hφ : φ id = .rows gs et) {i g c : Nat} (hg : gs[i]? = some (some (g, c))) {ys : List Int} {cur' : Array Value}
  (hw : w'.heap[g]? = some (.cells cur' et (0, 0))) (hother : ∀ k, k ≠ g → w'.heap[k]? = w.heap[k]?) (hlen : ys.length ≤ c) (hcur : cur'.size = c) (hes : ∀ (j : Nat) (v : Int), ys[j]? = some v → cur'[j]? = some (.int k v) ∧ lo k ≤ v ∧ v ≤ hi k) :
  RelH F φ base (H.set id (some (.rows et k (X.set i ys)))) w' := by
 have hold := h.blk id _ hb
 have hX : BlkX F φ base w id (.rows et k X) := by
  rcases hold with ⟨q, _⟩ | ⟨_, _, _, q, _⟩ | q
  ·rw [hφ] at q; cases q
  ·rw [hφ] at q; cases q
  ·exact q
 obtain ⟨gs', q, q1, q2, q4, q3⟩ := hX
 rw [hφ] at q
 injection q with e1 e2
 subst e1
 have hlt := Blk.ext_lt hb
 have hi : i < gs.length := (List.getElem?_eq_some_iff.1 hg).1
 have hocc : (φ id).occ g := by rw [hφ]; exact ⟨i, c, hg⟩
 have hFg := hold.occ hocc
 refine ⟨fun b2 o hF => ?_, fun id' hid => h.unused id' (by simpa using hid), fun id' b2 hb2 => ?_, fun i2 j2 bi bj g' hi2 hj2 h1 h2 => ?_, h.good, fun j2 i2 l hj => by
  by_cases hid : j2 = id
  ·subst hid
   rw [List.getElem?_set_self hlt] at hj
   simp only [Option.some.injEq] at hj; cases hj
  ·rw [List.getElem?_set_ne (Ne.symm hid)] at hj; exact h.pins j2 i2 l hj⟩
 ·rw [hother b2 (by rintro rfl; rw [hFg.2.1] at hF; cases hF)]; exact h.agree b2 o hF
 ·by_cases hid : id' = id
  ·subst hid
   rw [List.getElem?_set_self hlt] at hb2
   simp at hb2; subst hb2
   refine .inr (.inr ⟨gs, hφ, by rw [List.length_set]; exact q1, q2, fun m xs hp hx => ?_, fun m p xs hp hx => ?_⟩)
   ·have hm : m ≠ i := fun e => by subst e; rw [hg] at hp; cases hp
    rw [List.getElem?_set_ne (Ne.symm hm)] at hx
    exact q4 m xs hp hx
   by_cases hm : m = i
   ·subst hm
    rw [hg] at hp; injection hp with hp; injection hp with hp; subst hp
    rw [List.getElem?_set_self (by omega)] at hx
    injection hx with hx; subst hx
    obtain ⟨z1, z2, _, z4, _⟩ := q3 m _ _ hg (List.getElem?_eq_getElem (by omega))
    exact ⟨z1, z2, hlen, z4, cur', hw, hcur, hes⟩
   ·rw [List.getElem?_set_ne (Ne.symm hm)] at hx
    obtain ⟨z1, z2, z3, z4, cur, z5, z6⟩ := q3 m p xs hp hx
    have hne : p.1 ≠ g := fun e => hm (q2 m i g p.2 c (by rw [hp, ← e]) hg)
    exact ⟨z1, z2, z3, z4, cur, by rw [hother p.1 hne]; exact z5, z6⟩
  ·rw [List.getElem?_set_ne (Ne.symm hid)] at hb2
   refine (h.blk id' b2 hb2).le (FLe.refl F) (PLe.refl φ) (fun g _ hg _ => hg) fun g2 hg2 => hother g2 ?_
   rintro rfl
   exact hid (h.sep id' id b2 _ g2 hb2 hb hg2 hocc)
 ·have key : ∀ (m : Nat) (bk : Blk), (H.set id (some (.rows et k (X.set i ys))))[m]? = some (some bk) → ∃ bk', H[m]? = some (some bk') := by
   intro m bk hk
   by_cases hid : m = id
   ·subst hid; exact ⟨_, hb⟩
   ·rw [List.getElem?_set_ne (Ne.symm hid)] at hk; exact ⟨bk, hk⟩
  obtain ⟨bi', hi'⟩ := key i2 bi hi2
  obtain ⟨bj', hj'⟩ := key j2 bj hj2
  exact h.sep i2 j2 bi' bj' g' hi' hj' h1 h2
theorem storeRow_ok (hT : TabOk P T) (h : Rel F φ w0 st a w) {t : TypeId} (hk : known (T t) = true) (hsz : (T t).sz = 1) {id i j : Nat} {et : TypeId} {k : IntKind} {X : List (List Int)} {n : Int} {p v : Value} (hp : RepV F φ (.rowp id i j) p) (hr : RepV F φ (.int k n) v)
  (hb : getB st.h id = some (.rows et k X)) (hi : i < X.length) (hj : j < (X.getD i []).length) :
  ∃ w', (Instr.storeAt t p v).run P w = .ok () w' ∧ Rel F φ w0 { st with h := st.h.set id (some (.rows et k (X.set i ((X.getD i []).set j n)))) } a w' := by
 cases hp with | rowp _ _ _ g c gs et' hφ hg => ?_
 have hbH := getB_some hb
 obtain ⟨rfl, hn⟩ := int_inv hr
 have hX : BlkX F φ w0.heap.size w id (.rows et k X) := by
  rcases h.heap.blk id _ hbH with ⟨q, _⟩ | ⟨_, _, _, q, _⟩ | q
  ·rw [hφ] at q; cases q
  ·rw [hφ] at q; cases q
  ·exact q
 obtain ⟨gs', q, q1, q2, _, q3⟩ := hX
 rw [hφ] at q
 injection q with e1 e2
 subst e1 e2
 have hxi : X[i]? = some (X.getD i []) := by rw [List.getD_eq_getElem?_getD, List.getElem?_eq_getElem hi]; rfl
 obtain ⟨z1, z2, z3, z4, cur, z5, z6, z7⟩ := q3 i _ _ hg hxi
 have z6' : cur.size = c := z6
 have hst := run_storeCells_at P g j et' (Value.int k n).cells.toList 0 cur w z5 (by simp only [Value.cells, List.size_toArray, List.length_cons, List.length_nil]; omega) (by intro u hu; simp [Value.cells] at hu; subst hu; rfl)
 simp only [Nat.add_zero] at hst
 have hrun : (Instr.storeAt t (.pointer (some ⟨g, j, none⟩)) (.int k n)).run P w = .ok () (w.setRow g (cur.toList.take j ++ (Value.int k n).cells.toList ++ cur.toList.drop (j + (Value.int k n).cells.toList.length)).toArray) := by
  rw [← hst]
  simp [Instr.storeAt, Instr.sureAddr, storeVar, size_run hT hk, hsz, Value.cells]
 refine ⟨_, hrun, ?_, h.size, h.slots, h.defers, ?_⟩
 ·refine h.heap.turnRow hbH hφ hg (setRow_heap w g cur _ et' _ z5) (fun k hk => setRow_other w g k _ hk) (by rw [List.length_set]; exact z3) ?_ fun m v hv => ?_
  ·simp only [List.size_toArray, List.length_append, List.length_take, List.length_drop, Array.length_toList, Value.cells]
   show min j cur.size + 1 + (cur.size - (j + 1)) = c
   omega
  ·have hml : m < (X.getD i []).length := by
    have := (List.getElem?_eq_some_iff.1 hv).1
    simpa using this
   have hl : j + (Value.int k n).cells.toList.length ≤ cur.toList.length := by
    show j + 1 ≤ _
    simp only [Array.length_toList]; omega
   rw [List.getElem?_toArray, mid_get cur.toList j _ hl m]
   by_cases e : m = j
   ·subst e
    rw [if_pos ⟨Nat.le_refl _, by show m < m + 1; omega⟩, Nat.sub_self]
    rw [List.getElem?_set_self hml] at hv
    injection hv with hv; subst hv
    exact ⟨rfl, hn.1, hn.2⟩
   ·rw [if_neg (by show ¬ (j ≤ m ∧ m < j + 1); omega), Array.getElem?_toList]
    rw [List.getElem?_set_ne (Ne.symm e)] at hv
    exact z7 m v hv
 ·exact h.below.trans ⟨rfl, rfl, rfl, by simp [World.setRow], fun k hk => setRow_other w g k _ (by omega)⟩
end
end Go.AX
set_option linter.unusedSimpArgs false
set_option linter.unusedVariables false
namespace Go.AX
open Go Go.RowKit
section
variable {P : Program} {T : Tab} {F : Fz} {φ : Phi} {w0 : World} {st : St} {a : Act} {w : World}
theorem RelH.step {base : Nat} {H : List (Option Blk)} (h : RelH F φ base H w) {w' : World} (hF : ∀ b o, F b = some o → w'.heap[b]? = w.heap[b]?)
  (hL : ∀ id b x, H[id]? = some (some b) → (φ id).occ x → w'.heap[x]? = w.heap[x]?) : RelH F φ base H w' :=
 ⟨fun b o hb => (hF b o hb).trans (h.agree b o hb), h.unused, fun id b hb => (h.blk id b hb).le (FLe.refl F) (PLe.refl φ) (fun _ _ hg _ => hg) fun x hx => hL id b x hb hx, h.sep, h.good, h.pins⟩
def BlkRep (F : Fz) (φ : Phi) (cur : Array Value) (b : Blk) : Prop :=
 ∀ (i : Nat) (e : List AVal), b.es[i]? = some e → e.length = b.sz ∧ ∀ (j : Nat) (x : AVal), e[j]? = some x → ∃ u, cur[i * b.sz + j]? = some u ∧ RepV F φ x u ∧ u.oneCell' = true
theorem RelH.adoptL {base : Nat} {H : List (Option Blk)} (h : RelH F φ base H w) (b : Blk) (l : Loc)
  (hok : BlkOk F (upd φ H.length l) base w H.length b) (hnew : ∀ i bi g, H[i]? = some (some bi) → (φ i).occ g → ¬ l.occ g) (hp : b.np = true := by rfl) :
  RelH F (upd φ H.length l) base (H ++ [some b]) w ∧ PLe φ (upd φ H.length l) := by
 have hle := upd_le h l
 refine ⟨⟨h.agree, fun id hid => ?_, fun id b' hb => ?_, fun i j bi bj g hi hj h1 h2 => ?_, h.good, fun j i l hj => by
  rw [List.getElem?_append] at hj
  split at hj
  ·have := h.pins j i l hj; exact ⟨by rw [hle i (by rw [this.1]; exact this.2)]; exact this.1, this.2⟩
  ·rename_i hge
   match hm : j - H.length, hj with
   | 0, hj => simp only [List.getElem?_cons_zero, Option.some.injEq] at hj; subst hj; cases hp
   | k + 1, hj => simp at hj⟩, hle⟩
 ·simp only [List.length_append, List.length_cons, List.length_nil] at hid
  unfold upd
  rw [if_neg (by omega)]
  exact h.unused id (by omega)
 ·rw [List.getElem?_append] at hb
  split at hb
  ·exact (h.blk id b' hb).le (FLe.refl F) hle (fun g _ hg _ => hg) fun x hx => rfl
  ·rename_i hge
   have hid : id = H.length := by
    rcases Nat.lt_or_ge id (H.length + 1) with q | q
    ·omega
    ·rw [List.getElem?_eq_none (by simp; omega)] at hb; cases hb
   subst hid
   simp at hb; subst hb
   exact hok
 ·have key : ∀ (k : Nat) (bk : Blk) (g' : Nat), (H ++ [some b])[k]? = some (some bk) → (upd φ H.length l k).occ g' → (k < H.length ∧ H[k]? = some (some bk) ∧ (φ k).occ g') ∨ (k = H.length ∧ l.occ g') := by
   intro k bk g' hk hu
   rw [List.getElem?_append] at hk
   unfold upd at hu
   split at hk
   ·rename_i hlt
    rw [if_neg (by omega)] at hu
    exact .inl ⟨hlt, hk, hu⟩
   ·have hid : k = H.length := by
     rcases Nat.lt_or_ge k (H.length + 1) with q | q
     ·omega
     ·rw [List.getElem?_eq_none (by simp; omega)] at hk; cases hk
    rw [if_pos hid] at hu
    exact .inr ⟨hid, hu⟩
  rcases key i bi g hi h1 with ⟨_, a1, a2⟩ | ⟨a1, a2⟩ <;> rcases key j bj g hj h2 with ⟨_, b1, b2⟩ | ⟨b1, b2⟩
  ·exact h.sep i j bi bj g a1 b1 a2 b2
  ·exact absurd b2 (hnew i bi g a1 a2)
  ·exact absurd a2 (hnew j bj g b1 b2)
  ·omega
theorem madeCells_get (z : Array Value) (n m : Nat) (hm : m < n) (hz : 0 < z.size) : (madeCells z n)[m]? = z[m % z.size]? := by
 have : m % z.size < z.size := Nat.mod_lt _ hz
 simp [madeCells, hm, this, getElem!_pos]
/-- The zero value's cells, as abstract ones. -/
def zeroA (r : TyRow) : List AVal := r.zero.cells.toList.map absV
def okZero (r : TyRow) : Bool := decide (r.zero.cells.size = r.sz) && decide (0 < r.sz) && r.zero.cells.toList.all (·.oneCell')
/-- n zero values in a row. -/
def zeroB (e : TypeId) (r : TyRow) (n : Nat) : Blk :=
 match r.d with
 | .int k => .ints e k (List.replicate n 0)
 | _ => .gen e r.sz (List.replicate n (zeroA r))
theorem zeroB_np (e : TypeId) (r : TyRow) (n : Nat) : (zeroB e r n).np = true := by
 unfold zeroB
 split <;> rfl
theorem zeroB_rep {e : TypeId} {r : TyRow} {n : Nat} (hz : okZero r = true) (hi : ∀ k, r.d = .int k → r.sz = 1 ∧ r.zero = .int k 0) :
  (zeroB e r n).et = e ∧ (zeroB e r n).sz = r.sz ∧ (zeroB e r n).es.length = n ∧ BlkRep F φ (madeCells r.zero.cells (n * r.sz)) (zeroB e r n) := by
 simp only [okZero, Bool.and_eq_true, decide_eq_true_eq, List.all_eq_true] at hz
 obtain ⟨⟨h1, h2⟩, h3⟩ := hz
 have gen : ∀ (i : Nat) (e : List AVal), (List.replicate n (zeroA r))[i]? = some e → e.length = r.sz ∧ ∀ (j : Nat) (x : AVal), e[j]? = some x → ∃ u, (madeCells r.zero.cells (n * r.sz))[i * r.sz + j]? = some u ∧ RepV F φ x u ∧ u.oneCell' = true := by
  intro i e he
  rw [List.getElem?_replicate] at he
  split at he
  ·rename_i hin
   injection he with he; subst he
   refine ⟨by simp [zeroA, h1], fun j x hx => ?_⟩
   simp only [zeroA, List.getElem?_map, Option.map_eq_some_iff] at hx
   obtain ⟨u, hu, rfl⟩ := hx
   rw [Array.getElem?_toList] at hu
   have hj : j < r.sz := by rw [← h1]; exact (Array.getElem?_eq_some_iff.1 hu).1
   have hb : i * r.sz + r.sz ≤ n * r.sz := by rw [← Nat.succ_mul]; exact Nat.mul_le_mul_right _ (by omega)
   refine ⟨u, ?_, absV_rep F φ u, h3 u (Array.mem_toList_iff.2 (Array.mem_of_getElem? hu))⟩
   rw [madeCells_get _ _ _ (by omega) (by omega), h1, Nat.mul_comm, Nat.mul_add_mod, Nat.mod_eq_of_lt hj]
   exact hu
  ·cases he
 unfold zeroB
 split
 ·rename_i k hd
  obtain ⟨e1, e2⟩ := hi k hd
  refine ⟨rfl, e1.symm, by simp [Blk.es, intEs], ?_⟩
  have hza : zeroA r = [.int k 0] := by
   have : inb k 0 = true := by cases k <;> decide
   simp [zeroA, e2, Value.cells, absV, this]
  unfold BlkRep
  rw [hza, e1] at gen
  simpa [Blk.es, intEs, Blk.sz, e1] using gen
 ·exact ⟨rfl, rfl, by simp [Blk.es], gen⟩
theorem make_ok (hT : TabOk P T) (h : Rel F φ w0 st a w) {t e : TypeId} (hd : (T t).d = .slice e) (hk : known (T e) = true) (hz : okZero (T e) = true) (hi : ∀ k, (T e).d = .int k → (T e).sz = 1 ∧ (T e).zero = .int k 0)
  {k1 k2 : IntKind} {n : Nat} (hn : n ≤ 1099511627776) (hby : (T e).by_ ≤ 128) {d : Nat} (hdst : d < st.n) :
  ∃ φ' w', (Instr.makeSlice t (.int k1 (n : Int)) (.int k2 (n : Int))).run P w = .ok (.slice (some ⟨w.heap.size, 0, none⟩) n n) w' ∧
   Rel F φ' w0 { st with s := putL st.s d (.own st.h.length n), h := st.h ++ [some (zeroB e (T e) n)] } (a.put (some d) (.slice (some ⟨w.heap.size, 0, none⟩) n n)) w' := by
 obtain ⟨⟨i, q1, q2, q3, q4⟩, _⟩ := known_run hT hk
 obtain ⟨z1, z2, z3, z4⟩ := zeroB_rep (F := F) (φ := φ) (e := e) (n := n) hz hi
 have hbytes : (i.bytes : Int) * (n : Int) ≤ 281474976710656 := by
  have : i.bytes * n ≤ 128 * 1099511627776 := Nat.mul_le_mul (by omega) hn
  have h2 : ((i.bytes * n : Nat) : Int) ≤ 281474976710656 := by omega
  rwa [Int.natCast_mul] at h2
 have hrun := run_make (P := P) w t e i (T e).zero (slice_under hT hd) q1 q4 k1 k2 (n : Int) (n : Int) (by omega) (by omega) hbytes (by omega)
 simp only [Int.toNat_natCast] at hrun
 have hal := h.alloc (zeroB e (T e) n) (madeCells (T e).zero.cells (n * i.size)) n (by omega) (by unfold maxLen; omega) (by rw [size_madeCells, q2, z2]) (by rw [q2]; exact z4) (zeroB_np _ _ _)
 rw [z1] at hal
 refine ⟨upd φ st.h.length (.at w.heap.size n (zeroB e (T e) n).sz e), _, hrun, ?_⟩
 refine Rel.put (st := { st with h := st.h ++ [some (zeroB e (T e) n)] }) hal hdst ?_
 exact .own _ _ w.heap.size n (zeroB e (T e) n).sz e (by simp [upd]) (Nat.le_refl _) (by unfold maxLen; omega)
theorem fill_ok (size : Nat) : ∀ (parts : List (Nat × Value)) (k : Nat) (cells : Array Value), (∀ (q : Nat) (p : Nat × Value), parts[q]? = some p → p.1 = k + q ∧ p.2.cells.size = size) → (k + parts.length) * size ≤ cells.size →
  ∃ cells', Instr.fill (fun i => some (i * size, size)) cells parts = some cells' ∧ cells'.size = cells.size ∧
   (∀ (q : Nat) (p : Nat × Value), parts[q]? = some p → ∀ j, j < size → cells'[(k + q) * size + j]? = p.2.cells[j]?) ∧ ∀ m, m < k * size → cells'[m]? = cells[m]?
 | [], k, cells, _, _ => ⟨cells, rfl, rfl, fun q p h => by simp at h, fun _ _ => rfl⟩
 | (i, v) :: rest, k, cells, hp, hle => by
  obtain ⟨rfl, hv⟩ := hp 0 _ rfl
  simp only [List.length_cons] at hle
  have hb : i * size + size ≤ cells.size := by
   rw [← Nat.succ_mul]; exact Nat.le_trans (Nat.mul_le_mul_right _ (by omega)) hle
  obtain ⟨f1, f2⟩ := fold_setA v (i * size) cells (by simpa [hv] using hb)
  obtain ⟨c', r1, r2, r3, r4⟩ := fill_ok size rest (i + 1) _ (fun q p h => by have := hp (q + 1) p (by simpa using h); exact ⟨by omega, this.2⟩) (by rw [f1]; rw [show i + 1 + rest.length = i + (rest.length + 1) by omega]; exact hle)
  refine ⟨c', ?_, by rw [r2, f1], fun q p h j hj => ?_, fun m hm => ?_⟩
  ·simp only [Instr.fill]
   rw [if_neg (by simp [hv]; simpa using hb)]
   exact r1
  ·match q, h with
   | 0, h =>
    simp at h; subst h
    simp only [Nat.add_zero]
    rw [r4 _ (by rw [Nat.succ_mul]; omega), f2, if_pos (by rw [hv]; omega), Nat.add_sub_cancel_left]
   | q + 1, h =>
    have := r3 q p (by simpa using h) j hj
    show c'[(i + (q + 1)) * size + j]? = _
    rw [show i + (q + 1) = i + 1 + q by omega]; exact this
  ·have hm' : m < i * size := hm
   rw [r4 m (by rw [Nat.succ_mul]; omega), f2, if_neg (by omega)]
def intsOf (k : IntKind) : List AVal → Option (List Int)
 | [] => some []
 | .int k' n :: r => if k = k' then (intsOf k r).map (n :: ·) else none
 | _ => none
def rowsOf (sz : Nat) : List AVal → Option (List (List AVal))
 | [] => some []
 | x :: r => match cellsA x with
  | some c => if c.length = sz then (rowsOf sz r).map (c :: ·) else none
  | none => none
def partsB (e : TypeId) (r : TyRow) (l : List AVal) : Option Blk :=
 match r.d with
 | .int k => (intsOf k l).map (.ints e k)
 | _ => (rowsOf r.sz l).map (.gen e r.sz)
theorem rowsOf_get {sz : Nat} : ∀ {l : List AVal} {es : List (List AVal)}, rowsOf sz l = some es → es.length = l.length ∧ ∀ (i : Nat) (e : List AVal), es[i]? = some e → e.length = sz ∧ ∃ x, l[i]? = some x ∧ cellsA x = some e
 | [], es, h => by simp [rowsOf] at h; subst h; exact ⟨rfl, fun i e h => by simp at h⟩
 | x :: r, es, h => by
  simp only [rowsOf] at h
  split at h
  ·rename_i c hc
   split at h
   ·rename_i hs
    simp only [Option.map_eq_some_iff] at h
    obtain ⟨es', h', rfl⟩ := h
    obtain ⟨q1, q2⟩ := rowsOf_get h'
    refine ⟨by simp [q1], fun i e he => ?_⟩
    match i, he with
    | 0, he => simp at he; subst he; exact ⟨hs, x, rfl, hc⟩
    | i + 1, he => exact q2 i e (by simpa using he)
   ·cases h
  ·cases h
theorem intsOf_rows {k : IntKind} : ∀ {l : List AVal} {xs : List Int}, intsOf k l = some xs → rowsOf 1 l = some (intEs k xs)
 | [], xs, h => by simp [intsOf] at h; subst h; rfl
 | x :: r, xs, h => by
  cases x <;> simp only [intsOf, reduceCtorEq] at h
  rename_i k' n
  split at h
  ·rename_i hk
   subst hk
   simp only [Option.map_eq_some_iff] at h
   obtain ⟨xs', h', rfl⟩ := h
   have := intsOf_rows h'
   simp [rowsOf, cellsA, one1, this, intEs]
  ·cases h
theorem partsB_rows {e : TypeId} {r : TyRow} {l : List AVal} {b : Blk} (hs : ∀ k, r.d = .int k → r.sz = 1) (h : partsB e r l = some b) : b.et = e ∧ b.sz = r.sz ∧ rowsOf r.sz l = some b.es := by
 unfold partsB at h
 split at h
 ·rename_i k hd
  simp only [Option.map_eq_some_iff] at h
  obtain ⟨xs, h', rfl⟩ := h
  exact ⟨rfl, (hs k hd).symm, by rw [hs k hd]; exact intsOf_rows h'⟩
 ·simp only [Option.map_eq_some_iff] at h
  obtain ⟨xs, h', rfl⟩ := h
  exact ⟨rfl, rfl, h'⟩
theorem partsB_np {e : TypeId} {r : TyRow} {l : List AVal} {b : Blk} (h : partsB e r l = some b) : b.np = true := by
 unfold partsB at h
 split at h <;> (simp only [Option.map_eq_some_iff] at h; obtain ⟨_, _, rfl⟩ := h; rfl)
theorem build_ok (hT : TabOk P T) (h : Rel F φ w0 st a w) {t e : TypeId} (hd : (T t).d = .slice e) (hk : known (T e) = true) (hz : okZero (T e) = true) (hi : ∀ k, (T e).d = .int k → (T e).sz = 1)
    {len : Nat} {l : List AVal} {vs : List (Nat × Value)} {b : Blk} (hlen : len * (T e).sz ≤ 16777216) (hl : l.length = len) (hvl : vs.length = len)
    (hvs : ∀ (q : Nat) (p : Nat × Value) (x : AVal), vs[q]? = some p → l[q]? = some x → p.1 = q ∧ RepV F φ x p.2) (hb : partsB e (T e) l = some b) {d : Nat} (hdst : d < st.n) :
    ∃ φ' w', (Instr.buildSlice t len vs.toArray).run P w = .ok (.slice (some ⟨w.heap.size, 0, none⟩) len len) w' ∧
      Rel F φ' w0 { st with s := putL st.s d (.own st.h.length len), h := st.h ++ [some b] } (a.put (some d) (.slice (some ⟨w.heap.size, 0, none⟩) len len)) w' := by
  obtain ⟨b1, b2, b3⟩ := partsB_rows hi hb
  obtain ⟨r1, r2⟩ := rowsOf_get b3
  have hz' := hz
  simp only [okZero, Bool.and_eq_true, decide_eq_true_eq] at hz'
  obtain ⟨⟨z1, z2⟩, _⟩ := hz'
  have hcell : ∀ (q : Nat) (p : Nat × Value), vs[q]? = some p → p.1 = 0 + q ∧ p.2.cells.size = (T e).sz ∧ ∃ e', b.es[q]? = some e' ∧ ∀ (j : Nat) (y : AVal), e'[j]? = some y → ∃ u, p.2.cells[j]? = some u ∧ RepV F φ y u ∧ u.oneCell' = true := by
    intro q p hq
    have hql : q < len := by
      rcases Nat.lt_or_ge q len with c | c
      · exact c
      · rw [List.getElem?_eq_none (by omega)] at hq; cases hq
    obtain ⟨e1, e2⟩ := hvs q p _ hq (List.getElem?_eq_getElem (by omega))
    have heq : b.es[q]? = some (b.es[q]'(by omega)) := List.getElem?_eq_getElem (by omega)
    obtain ⟨s1, x, s2, s3⟩ := r2 q _ heq
    rw [List.getElem?_eq_getElem (by omega)] at s2
    injection s2 with s2
    rw [s2] at e2
    obtain ⟨c1, c2⟩ := cells_rep e2 s3
    exact ⟨by omega, by omega, _, heq, c2⟩
  obtain ⟨cells, f1, f2, f3, _⟩ := fill_ok (T e).sz vs 0 ((Array.range (len * (T e).sz)).map ((if len * (T e).sz = 0 then #[] else (T e).zero.cells)[· % (if len * (T e).sz = 0 then #[] else (T e).zero.cells).size]!)) (fun q p hq => ⟨(hcell q p hq).1, (hcell q p hq).2.1⟩) (by simp [hvl])
  have hrun : (Instr.buildSlice t len vs.toArray).run P w = .ok (.slice (some ⟨w.heap.size, 0, none⟩) len len) (w.alloc (.cells cells e)) := by
    have hzr := zero_run hT hk
    have hsr := size_run hT hk
    by_cases h0 : len * (T e).sz = 0
    · rw [if_pos h0] at f1
      simp only [Instr.buildSlice, Sem.run_bind, run_underlying (slice_under hT hd), Result.andThen_ok, hsr, if_pos h0]
      rw [if_neg (by omega)]
      simp only [Sem.run_pure, Sem.run_bind, Result.andThen_ok, f1]; rfl
    · rw [if_neg h0] at f1
      simp only [Instr.buildSlice, Sem.run_bind, run_underlying (slice_under hT hd), Result.andThen_ok, hsr, if_neg h0]
      rw [if_neg (by omega)]
      simp only [Sem.run_pure, Sem.run_bind, Result.andThen_ok, hzr, f1]; rfl
  have hal := h.alloc b cells len (by omega) (by
      have : len ≤ len * (T e).sz := Nat.le_mul_of_pos_right _ z2
      unfold maxLen; omega) (by rw [f2, b2]; simp) (fun i e' he => ⟨by rw [b2]; exact (r2 i e' he).1, fun j x hx => by
    have hil : i < len := by
      rcases Nat.lt_or_ge i b.es.length with c | c
      · omega
      · rw [List.getElem?_eq_none c] at he; cases he
    have hq : vs[i]? = some (vs[i]'(by omega)) := List.getElem?_eq_getElem (by omega)
    obtain ⟨c1, c2, e2, c3, c4⟩ := hcell i _ hq
    rw [he] at c3; injection c3 with c3; subst c3
    obtain ⟨u, u1, u2⟩ := c4 j x hx
    have hj : j < (T e).sz := by rw [← c2]; exact (Array.getElem?_eq_some_iff.1 u1).1
    exact ⟨u, by rw [b2]; have := f3 i _ hq j hj; rw [Nat.zero_add] at this; rw [this]; exact u1, u2⟩⟩) (partsB_np hb)
  rw [b1] at hal
  refine ⟨upd φ st.h.length (.at w.heap.size len b.sz e), _, hrun, ?_⟩
  refine Rel.put (st := { st with h := st.h ++ [some b] }) hal hdst ?_
  refine .own _ _ w.heap.size len b.sz e (by simp [upd]) (Nat.le_refl _) ?_
  have : len ≤ len * (T e).sz := Nat.le_mul_of_pos_right _ z2
  unfold maxLen; omega
end
end Go.AX
set_option linter.unusedSimpArgs false
set_option linter.unusedVariables false
namespace Go.AX
open Go Go.RowKit
section
variable {P : Program} {T : Tab} {F : Fz} {φ : Phi} {w0 : World} {st : St} {a : Act} {w : World}
def RowRep (F : Fz) (φ : Phi) (xs : List Value) (b : Blk) : Prop :=
 ∀ (i : Nat) (e : List AVal), b.es[i]? = some e → e.length = b.sz ∧ ∀ (j : Nat) (x : AVal), e[j]? = some x → ∃ u, xs[i * b.sz + j]? = some u ∧ RepV F φ x u ∧ u.oneCell' = true
def takeB (n : Nat) : Blk → Blk
 | .ints et k xs => .ints et k (xs.take n)
 | .gen et sz es => .gen et sz (es.take n)
 | .pin _ _ => .gen 0 0 []
 | .xo _ => .gen 0 1 ([[]].take n)
 | .rows _ _ _ => .gen 0 1 ([[]].take n)
 | .outs et rid m f len => .outs et rid (min n m) f len
/-- A row alone. -/
def rowOf : Blk → Option (Nat × Nat × Nat)
 | .gen _ sz [[.row r a l]] => if sz = 1 then some (r, a, l) else none
 | _ => none
theorem rowOf_es {c : Blk} {r a l : Nat} (h : rowOf c = some (r, a, l)) : c.es = [[.row r a l]] ∧ c.sz = 1 := by
 unfold rowOf at h
 split at h
 ·split at h
  ·rename_i hz; injection h with h; injection h with h1 h; injection h with h2 h3; subst h1 h2 h3; exact ⟨rfl, hz⟩
  ·cases h
 ·cases h
def catB : Blk → Blk → Option Blk
 | .ints et k xs, .ints _ k' ys => if k = k' then some (.ints et k (xs ++ ys)) else none
 | .gen et sz es, .gen _ sz' fs => if sz = sz' then some (.gen et sz (es ++ fs)) else none
 | .gen et sz [], .outs _ rid n f len => if sz = 1 then some (.outs et rid n f len) else none
 | .outs et rid n f len, c => match rowOf c with
  | some (r, a, l) => if r = rid then some (.outs et rid (n + 1) (fun m => if m = n then some a else f m) (fun m => if m = n then l else len m)) else none
  | none => none
 | _, _ => none
def emptyB (e : TypeId) (r : TyRow) : Blk := match r.d with
 | .int k => .ints e k []
 | _ => .gen e r.sz []
theorem takeB_es (n : Nat) (b : Blk) : (takeB n b).es = b.es.take n ∧ (takeB n b).sz = b.sz ∧ (takeB n b).et = b.et := by
 cases b with
 | outs et rid m f len => exact ⟨by simp only [takeB, Blk.es, fnEs]; rw [← List.map_take, List.take_range], rfl, rfl⟩
 | _ => simp [takeB, Blk.es, Blk.sz, Blk.et, intEs, List.map_take]
theorem catB_es {b c d : Blk} (h : catB b c = some d) : d.es = b.es ++ c.es ∧ d.sz = b.sz ∧ d.et = b.et ∧ c.sz = b.sz := by
 have hout : ∀ {et : TypeId} {rid n : Nat} {f : Nat → Option Nat} {len : Nat → Nat}, catB (.outs et rid n f len) c = some d → d.es = (Blk.outs et rid n f len).es ++ c.es ∧ d.sz = 1 ∧ d.et = et ∧ c.sz = 1 := by
  intro et rid n f len h
  simp only [catB] at h
  split at h
  ·rename_i r a l hr
   obtain ⟨c1, c2⟩ := rowOf_es hr
   split at h
   ·rename_i e; subst e; injection h with h; subst h
    refine ⟨?_, rfl, rfl, c2⟩
    rw [c1]
    simp only [Blk.es, fnEs, List.range_succ, List.map_append, List.map_cons, List.map_nil, outE, if_pos]
    congr 1
    refine List.map_congr_left fun m hm => ?_
    have := List.mem_range.1 hm
    simp [outE, show m ≠ n by omega]
   ·cases h
  ·cases h
 cases b with
 | outs et rid n f len => exact hout h
 | ints et k xs =>
  cases c <;> simp only [catB, reduceCtorEq] at h
  split at h
  ·rename_i hk; injection h with h; subst h hk; simp [Blk.es, Blk.sz, Blk.et, intEs]
  ·cases h
 | gen et sz es =>
  cases c with
  | outs _ _ _ _ _ =>
   cases es with
   | nil =>
    simp only [catB] at h
    split at h
    ·rename_i hk; injection h with h; subst h hk; simp [Blk.es, Blk.sz, Blk.et]
    ·cases h
   | cons _ _ => simp [catB] at h
  | gen _ _ _ =>
   simp only [catB] at h
   split at h
   ·rename_i hk; injection h with h; subst h hk; simp [Blk.es, Blk.sz, Blk.et]
   ·cases h
  | _ => simp [catB] at h
 | pin _ _ => simp [catB] at h
 | xo _ => simp [catB] at h
 | rows _ _ _ => simp [catB] at h
theorem emptyB_es {e : TypeId} {r : TyRow} (hs : ∀ k, r.d = .int k → r.sz = 1) : (emptyB e r).es = [] ∧ (emptyB e r).sz = r.sz ∧ (emptyB e r).et = e := by
 unfold emptyB
 split
 ·rename_i k hd; exact ⟨rfl, (hs k hd).symm, rfl⟩
 ·exact ⟨rfl, rfl, rfl⟩
/-- What is appended. -/
def srcA (e : TypeId) (r : TyRow) (H : List (Option Blk)) : AVal → Option Blk
 | .own id m => match getB H id with
  | some b => if m ≤ b.es.length then some (takeB m b) else none
  | none => none
 | .nil => some (emptyB e r)
 | .ints k ys => some (.ints e k ys)
 | .imm sz es => some (.gen e sz es)
 | .fn sz n f => some (.gen e sz (fnEs n f))
 | _ => none
theorem src_ok (h : Rel F φ w0 st a w) {e : TypeId} {r : TyRow} (hs : ∀ k, r.d = .int k → r.sz = 1) {x : AVal} {v : Value} {b : Blk} (hr : RepV F φ x v) (hb : srcA e r st.h x = some b) (hsz : b.sz = r.sz) :
    ∃ A c news, v = .slice A b.es.length c ∧ news.length = b.es.length * r.sz ∧ RowRep F φ news b ∧ (A = none → b.es.length = 0) ∧ (∀ ad, A = some ad → ∀ j u, news[j]? = some u → w.cell? (ad.add j) = some u) ∧ ∀ u ∈ news, u.oneCell' = true := by
  have imm : ∀ {es : List (List AVal)} {b : Blk} {v : Value}, RepV F φ (.imm r.sz es) v → b.es = es → b.sz = r.sz →
      ∃ A c news, v = .slice A b.es.length c ∧ news.length = b.es.length * r.sz ∧ RowRep F φ news b ∧ (A = none → b.es.length = 0) ∧ (∀ ad, A = some ad → ∀ j u, news[j]? = some u → w.cell? (ad.add j) = some u) ∧ ∀ u ∈ news, u.oneCell' = true := by
    intro es b v hv hes hbs
    cases hv with
    | imm _ _ A n c u e1 e2 e3 e4 e5 e6 e7 =>
      subst e1 hes
      have hrow : ∀ m, m < b.es.length * r.sz → ∃ i j e, m = i * r.sz + j ∧ b.es[i]? = some e ∧ j < r.sz ∧ e.length = r.sz := by
        intro m hm
        have hpos : 0 < r.sz := by rcases Nat.eq_zero_or_pos r.sz with q | q; · rw [q] at hm; omega
                                   · exact q
        have hi : m / r.sz < b.es.length := (Nat.div_lt_iff_lt_mul hpos).2 hm
        refine ⟨m / r.sz, m % r.sz, b.es[m / r.sz]'hi, ?_, List.getElem?_eq_getElem hi, Nat.mod_lt _ hpos, e4 _ _ (List.getElem?_eq_getElem hi)⟩
        rw [Nat.mul_comm]; exact (Nat.div_add_mod m r.sz).symm
      let news := (List.range (b.es.length * r.sz)).map fun m => u (m / r.sz) (m % r.sz)
      have hget : ∀ i j e, b.es[i]? = some e → j < r.sz → news[i * r.sz + j]? = some (u i j) := by
        intro i j e hi hj
        have hil : i < b.es.length := by
          rcases Nat.lt_or_ge i b.es.length with q | q
          · exact q
          · rw [List.getElem?_eq_none q] at hi; cases hi
        have hb : i * r.sz + r.sz ≤ b.es.length * r.sz := by rw [← Nat.succ_mul]; exact Nat.mul_le_mul_right _ (by omega)
        have d1 : (i * r.sz + j) / r.sz = i := by rw [Nat.mul_comm, Nat.mul_add_div (by omega), Nat.div_eq_of_lt hj]; rfl
        have d2 : (i * r.sz + j) % r.sz = j := by rw [Nat.mul_comm, Nat.mul_add_mod, Nat.mod_eq_of_lt hj]
        show ((List.range _).map _)[_]? = _
        rw [List.getElem?_map, List.getElem?_range (by omega)]
        simp [d1, d2]
      have hcell : ∀ m v, news[m]? = some v → ∃ i j e x, m = i * r.sz + j ∧ b.es[i]? = some e ∧ e[j]? = some x ∧ v = u i j := by
        intro m v hv
        have hm : m < b.es.length * r.sz := by
          rcases Nat.lt_or_ge m (b.es.length * r.sz) with q | q
          · exact q
          · rw [List.getElem?_eq_none (by simp [news]; omega)] at hv; cases hv
        obtain ⟨i, j, e, rfl, hi, hj, hel⟩ := hrow m hm
        rw [hget i j e hi hj] at hv
        injection hv with hv
        exact ⟨i, j, e, e[j]'(by omega), rfl, hi, List.getElem?_eq_getElem (by omega), hv.symm⟩
      refine ⟨A, c, news, rfl, by simp [news], fun i e hi => ⟨by rw [hbs]; exact e4 i e hi, fun j x hx => ?_⟩, fun hA => ?_, fun ad hA m v hv => ?_, fun v hv => ?_⟩
      · have hj : j < r.sz := by
          have := e4 i e hi
          rcases Nat.lt_or_ge j e.length with q | q
          · omega
          · rw [List.getElem?_eq_none q] at hx; cases hx
        obtain ⟨ad, hA⟩ : ∃ ad, A = some ad := by
          cases hA : A with
          | some ad => exact ⟨ad, rfl⟩
          | none =>
            exact absurd hA (e5 (by
              rcases Nat.lt_or_ge i b.es.length with q | q
              · omega
              · rw [List.getElem?_eq_none q] at hi; cases hi))
        exact ⟨u i j, by rw [hbs]; exact hget i j e hi hj, (e7 i e j x hi hx).le (FLe.refl F) (PLe0 φ), (e6 ad i e j x hA hi hx).2⟩
      · rcases Nat.eq_zero_or_pos b.es.length with q | q
        · exact q
        · exact absurd hA (e5 q)
      · obtain ⟨i, j, e, x, rfl, hi, hx, rfl⟩ := hcell m v hv
        exact agree_cell h.heap (e6 ad i e j x hA hi hx).1
      · obtain ⟨m, hm, rfl⟩ := List.getElem_of_mem hv
        obtain ⟨i, j, e, x, rfl, hi, hx, hu⟩ := hcell m _ (List.getElem?_eq_getElem hm)
        cases hA : A with
        | none =>
          exact absurd hA (e5 (by
            rcases Nat.lt_or_ge i b.es.length with q | q
            · omega
            · rw [List.getElem?_eq_none q] at hi; cases hi))
        | some ad => rw [hu]; exact (e6 ad i e j x hA hi hx).2
  cases x <;> simp only [srcA, reduceCtorEq] at hb
  case nil =>
    injection hb with hb
    cases hr
    obtain ⟨q1, q2, q3⟩ := emptyB_es (e := e) hs
    subst hb
    exact ⟨none, 0, [], by simp [q1], by simp [q1], fun i e' he => by rw [q1] at he; simp at he, fun _ => by simp [q1], (fun ad h => nomatch h), by simp⟩
  case ints k ys =>
    injection hb with hb
    subst hb
    cases hr with | ints _ _ _ hr => ?_
    have hsz' : r.sz = 1 := hsz.symm
    exact imm (by rw [hsz']; exact hr) rfl hsz
  case imm sz es =>
    injection hb with hb
    subst hb
    have hsz' : r.sz = sz := hsz.symm
    exact imm (by rw [hsz']; exact hr) rfl hsz
  case fn sz n f =>
    injection hb with hb
    subst hb
    cases hr with | fn _ _ _ _ hr => ?_
    have hsz' : r.sz = sz := hsz.symm
    exact imm (by rw [hsz']; exact hr) rfl hsz
  case own id m =>
    split at hb
    · rename_i b' hb'
      split at hb
      · rename_i hm
        injection hb with hb
        subst hb
        obtain ⟨t1, t2, t3⟩ := takeB_es m b'
        rw [t2] at hsz
        cases hr with
        | ownNil _ q =>
          exact ⟨none, 0, [], by simp [t1], by simp [t1], fun i e' he => by rw [t1] at he; simp at he, fun _ => by simp [t1], (fun ad h => nomatch h), by simp⟩
        | own _ _ g cap sz et q1 q2 q3 =>
          rcases (h.heap.blk id b' (getB_some hb')).atC q1 with ⟨p, _⟩ | ⟨g', cap', cur, p, p1, p2, p3, p4, p5, p6, p7⟩
          · rw [q1] at p; cases p
          rw [q1] at p
          injection p with e1 e2 e3 e4
          subst e1 e2 e3 e4
          have hlen : (takeB m b').es.length = m := by rw [t1]; simp; omega
          have hb1 : m * b'.sz ≤ cap * b'.sz := Nat.mul_le_mul_right _ (by omega)
          have hcell : ∀ i e j x, i < m → b'.es[i]? = some e → e[j]? = some x → (cur.toList.take (m * b'.sz))[i * b'.sz + j]? = cur[i * b'.sz + j]? := by
            intro i e j x him he hx
            have hj : j < b'.sz := by
              have := (p7 i e he).1
              rcases Nat.lt_or_ge j e.length with q | q
              · omega
              · rw [List.getElem?_eq_none q] at hx; cases hx
            have : i * b'.sz + b'.sz ≤ m * b'.sz := by rw [← Nat.succ_mul]; exact Nat.mul_le_mul_right _ (by omega)
            rw [List.getElem?_take, if_pos (by omega), Array.getElem?_toList]
          refine ⟨some ⟨g, 0, none⟩, cap, cur.toList.take (m * b'.sz), by rw [hlen], by rw [hlen, ← hsz]; simp; omega, fun i e' he => ?_, (fun hA => nomatch hA), fun ad hA j u hu => ?_, fun u hu => ?_⟩
          · rw [t1, List.getElem?_take] at he
            split at he
            · rename_i him
              refine ⟨by rw [t2]; exact (p7 i e' he).1, fun j x hx => ?_⟩
              obtain ⟨u, u1, u2⟩ := (p7 i e' he).2 j x hx
              exact ⟨u, by rw [t2, hcell i e' j x him he hx]; exact u1, u2⟩
            · cases he
          · injection hA with hA; subst hA
            rw [List.getElem?_take] at hu
            split at hu
            · rw [Addr.add_lit, Nat.zero_add, cell_of_row w g j cur b'.et (0, 0) p3, ← Array.getElem?_toList]; exact hu
            · cases hu
          · obtain ⟨n, hn, rfl⟩ := List.getElem_of_mem hu
            have hn' : n < m * b'.sz := by simp at hn; omega
            have hpos : 0 < b'.sz := by rcases Nat.eq_zero_or_pos b'.sz with q | q; · rw [q] at hn'; omega
                                        · exact q
            have hi : n / b'.sz < m := (Nat.div_lt_iff_lt_mul hpos).2 hn'
            have he : b'.es[n / b'.sz]? = some (b'.es[n / b'.sz]'(by omega)) := List.getElem?_eq_getElem (by omega)
            obtain ⟨l1, l2⟩ := p7 _ _ he
            have hmod := Nat.mod_lt n hpos
            obtain ⟨u, u1, _, u3⟩ := l2 (n % b'.sz) _ (List.getElem?_eq_getElem (by omega))
            rw [show n / b'.sz * b'.sz + n % b'.sz = n by rw [Nat.mul_comm]; exact Nat.div_add_mod n b'.sz] at u1
            rw [List.getElem_take, Array.getElem_toList]
            rw [Array.getElem?_eq_getElem (by omega)] at u1
            injection u1 with u1; rw [u1]; exact u3
      · cases hb
    · cases hb
/-- How long a list may be made. -/
def capN (b : Nat) : Nat := if b ≤ 16 then 8796093022208 else 1099511627776
theorem capN_le (b : Nat) : capN b ≤ 8796093022208 := by unfold capN; split <;> omega
/-- What 'append' makes: the block that is given up, and the new one. -/
def appB (e : TypeId) (r : TyRow) (H : List (Option Blk)) (s x : AVal) : Option (Option Nat × Blk) :=
 match srcA e r H x with
 | some c => match s with
  | .own id n => match getB H id with
   | some b => if n ≤ b.es.length ∧ b.et = e then (catB (takeB n b) c).map fun d => (some id, d) else none
   | none => none
  | .nil => (catB (emptyB e r) c).map fun d => (none, d)
  | _ => none
 | none => none
theorem catB_np {b c d : Blk} (h : catB b c = some d) : d.np = true := by
 cases b with
 | outs et rid n f len =>
  simp only [catB] at h
  split at h
  ·split at h
   ·injection h with h; subst h; rfl
   ·cases h
  ·cases h
 | ints et k xs =>
  cases c <;> simp only [catB, reduceCtorEq] at h
  split at h
  ·injection h with h; subst h; rfl
  ·cases h
 | gen et sz es =>
  cases c with
  | outs _ _ _ _ _ =>
   cases es with
   | nil =>
    simp only [catB] at h
    split at h
    ·injection h with h; subst h; rfl
    ·cases h
   | cons _ _ => simp [catB] at h
  | gen _ _ _ =>
   simp only [catB] at h
   split at h
   ·injection h with h; subst h; rfl
   ·cases h
  | _ => simp [catB] at h
 | pin _ _ => simp [catB] at h
 | xo _ => simp [catB] at h
 | rows _ _ _ => simp [catB] at h
def killO (H : List (Option Blk)) : Option Nat → List (Option Blk)
 | some id => H.set id none
 | none => H
theorem run_append_nothing (base : Nat) {t ty e : TypeId} {i : TypeInfo} {size : Nat} (ht : P.underlying t = some (.slice e)) (hi : P.info? e = some i) {v : Value} {n : Nat} {xs : List Value} (hown : w.ownsRow base e size v n xs) (c : Nat) :
  (Builtin.append_ #[t, t] ty #[v, .slice none 0 c]).run P w = .ok v w := by
 rcases hown.2 with ⟨rfl, rfl⟩ | ⟨g, cap, cur, rfl, _, _, hnc, _⟩
 ·simp [Builtin.append_, run_underlying ht, sizeOf, typeInfo, hi, Builtin.lenOf, Builtin.firstCells]
 ·simp [Builtin.append_, run_underlying ht, sizeOf, typeInfo, hi, Builtin.lenOf, Builtin.firstCells, hnc, storeCells]
theorem RowRep.cat {xs ys : List Value} {b c d : Blk} (hx : RowRep F φ xs b) (hy : RowRep F φ ys c) (hl : xs.length = b.es.length * b.sz) (hd : catB b c = some d) : RowRep F φ (xs ++ ys) d := by
 obtain ⟨d1, d2, _, d4⟩ := catB_es hd
 intro i e he
 rw [d1] at he
 rw [List.getElem?_append] at he
 split at he
 ·rename_i hi
  refine ⟨by rw [d2]; exact (hx i e he).1, fun j x hj => ?_⟩
  obtain ⟨u, u1, u2⟩ := (hx i e he).2 j x hj
  refine ⟨u, ?_, u2⟩
  rw [d2, List.getElem?_append_left]
  ·exact u1
  ·rcases Nat.lt_or_ge (i * b.sz + j) xs.length with q | q
   ·exact q
   ·rw [List.getElem?_eq_none q] at u1; cases u1
 ·rename_i hi
  refine ⟨by rw [d2, ← d4]; exact (hy _ e he).1, fun j x hj => ?_⟩
  obtain ⟨u, u1, u2⟩ := (hy _ e he).2 j x hj
  refine ⟨u, ?_, u2⟩
  rw [d4] at u1
  have hge : b.es.length * b.sz ≤ i * b.sz := Nat.mul_le_mul_right _ (by omega)
  rw [d2, List.getElem?_append_right (by omega), hl]
  rw [show i * b.sz + j - b.es.length * b.sz = (i - b.es.length) * b.sz + j by rw [Nat.sub_mul]; omega]
  exact u1
theorem own_row (h : Rel F φ w0 st a w) {id n : Nat} {b : Blk} {v : Value} (hr : RepV F φ (.own id n) v) (hb : getB st.h id = some b) (hn : n ≤ b.es.length) :
  ∃ xs, w.ownsRow w0.heap.size b.et b.sz v n xs ∧ RowRep F φ xs (takeB n b) ∧ (∀ g, v.ownBlock = some g → ∃ c s t, φ id = .at g c s t) := by
 obtain ⟨t1, t2, t3⟩ := takeB_es n b
 cases hr with
 | ownNil _ q => exact ⟨[], World.ownsRow_nil _ _ _ _, fun i e' he => by rw [t1] at he; simp at he, fun g hg => by simp [Value.ownBlock] at hg⟩
 | own _ _ g cap sz et q1 q2 q3 =>
  rcases (h.heap.blk id b (getB_some hb)).atC q1 with ⟨p, _⟩ | ⟨g', cap', cur, p, p1, p2, p3, p4, p5, p6, p7⟩
  ·rw [q1] at p; cases p
  rw [q1] at p
  injection p with e1 e2 e3 e4
  subst e1 e2 e3 e4
  have hb1 : n * b.sz ≤ cap * b.sz := Nat.mul_le_mul_right _ (by omega)
  refine ⟨cur.toList.take (n * b.sz), ⟨by simp; omega, .inr ⟨g, cap, cur, rfl, p1, p3, q2, p5, p6, rfl⟩⟩, fun i e' he => ?_, fun g' hg => ?_⟩
  ·rw [t1, List.getElem?_take] at he
   split at he
   ·rename_i him
    refine ⟨by rw [t2]; exact (p7 i e' he).1, fun j x hx => ?_⟩
    obtain ⟨u, u1, u2⟩ := (p7 i e' he).2 j x hx
    have hj : j < b.sz := by
     have := (p7 i e' he).1
     rcases Nat.lt_or_ge j e'.length with q | q
     ·omega
     ·rw [List.getElem?_eq_none q] at hx; cases hx
    have : i * b.sz + b.sz ≤ n * b.sz := by rw [← Nat.succ_mul]; exact Nat.mul_le_mul_right _ (by omega)
    exact ⟨u, by rw [t2, List.getElem?_take, if_pos (by omega), Array.getElem?_toList]; exact u1, u2⟩
   ·cases he
  ·simp [Value.ownBlock] at hg; subst hg; exact ⟨_, _, _, q1⟩
theorem append_ok (hT : TabOk P T) (h : Rel F φ w0 st a w) {t ty e : TypeId} (hd : (T t).d = .slice e) (hk : known (T e) = true) (hz : okZero (T e) = true) (hs1 : ∀ k, (T e).d = .int k → (T e).sz = 1) (hby : (T e).by_ ≤ 128)
  {s x : AVal} {v1 v2 : Value} (hs : RepV F φ s v1) (hx : RepV F φ x v2) {ko : Option Nat} {nb : Blk} (ha : appB e (T e) st.h s x = some (ko, nb)) (hsz : nb.sz = (T e).sz) (hlen : nb.es.length ≤ capN (T e).by_) {d : Nat} (hdst : d < st.n) :
  ∃ v' w' φ', (Builtin.append_ #[t, t] ty #[v1, v2]).run P w = .ok v' w' ∧ Rel F φ' w0 { st with s := putL st.s d (.own st.h.length nb.es.length), h := killO st.h ko ++ [some nb] } (a.put (some d) v') w' := by
 obtain ⟨⟨i, i1, i2, i3, i4⟩, _⟩ := known_run hT hk
 simp only [okZero, Bool.and_eq_true, decide_eq_true_eq] at hz
 obtain ⟨⟨z1, z2⟩, _⟩ := hz
 have hsu := slice_under hT hd
 unfold appB at ha
 cases hc : srcA e (T e) st.h x with
 | none => rw [hc] at ha; cases ha
 | some c =>
  rw [hc] at ha
  -- what s owns
  have hs' : ∃ b n xs, w.ownsRow w0.heap.size e (T e).sz v1 n xs ∧ RowRep F φ xs b ∧ b.es.length = n ∧ b.sz = (T e).sz ∧ b.et = e ∧ catB b c = some nb ∧
    (∀ g, v1.ownBlock = some g → ∃ id c s t, ko = some id ∧ φ id = .at g c s t ∧ ∃ b', st.h[id]? = some (some b')) := by
   cases s <;> simp only [reduceCtorEq] at ha
   case nil =>
    simp only [Option.map_eq_some_iff, Prod.mk.injEq] at ha
    obtain ⟨_, hcat, rfl, rfl⟩ := ha
    obtain ⟨q1, q2, q3⟩ := emptyB_es (e := e) hs1
    cases hs
    exact ⟨emptyB e (T e), 0, [], World.ownsRow_nil _ _ _ _, fun i e' he => by rw [q1] at he; simp at he, by simp [q1], q2, q3, hcat, fun g hg => by simp [Value.ownBlock] at hg⟩
   case own id n =>
    split at ha
    ·rename_i b hb
     split at ha
     ·rename_i hn
      obtain ⟨hn, het⟩ := hn
      simp only [Option.map_eq_some_iff, Prod.mk.injEq] at ha
      obtain ⟨_, hcat, rfl, rfl⟩ := ha
      obtain ⟨t1, t2, t3⟩ := takeB_es n b
      obtain ⟨_, d2, _, _⟩ := catB_es hcat
      have hbsz : b.sz = (T e).sz := by rw [← t2, ← d2]; exact hsz
      obtain ⟨xs, o1, o2, o3⟩ := own_row h hs hb hn
      rw [hbsz, het] at o1
      exact ⟨takeB n b, n, xs, o1, o2, by rw [t1]; simp; omega, by rw [t2]; exact hbsz, by rw [t3]; exact het, hcat, fun g hg => by
       obtain ⟨c, s, t, q⟩ := o3 g hg
       exact ⟨id, c, s, t, rfl, q, b, getB_some hb⟩⟩
     ·cases ha
    ·cases ha
  obtain ⟨b, n, xs, o1, o2, o3, o4, o5, hcat, o6⟩ := hs'
  obtain ⟨c1, c2, c3, c4⟩ := catB_es hcat
  obtain ⟨A, cap, news, rfl, n1, n2, n3, n4, n5⟩ := src_ok h hs1 hx hc (by rw [c4]; exact o4)
  have hnb : nb.es.length = n + c.es.length := by rw [c1, List.length_append, o3]
  -- the run
  have hrun : ∃ v' w', (Builtin.append_ #[t, t] ty #[v1, .slice A c.es.length cap]).run P w = .ok v' w' ∧ w'.ownsRow w0.heap.size e (T e).sz v' (n + c.es.length) (xs ++ news) ∧ w.grownBy w' v1.ownBlock ∧ (v'.ownBlock = v1.ownBlock ∨ v'.ownBlock = some w.heap.size) := by
   cases A with
   | none =>
    have h0 := n3 rfl
    have hnews : news = [] := List.eq_nil_of_length_eq_zero (by rw [n1, h0]; simp)
    refine ⟨v1, w, by rw [h0]; exact run_append_nothing w0.heap.size hsu i1 o1 cap, by rw [h0, hnews]; simpa using o1, ⟨rfl, rfl, rfl, Nat.le_refl _, fun _ _ _ => rfl⟩, .inl rfl⟩
   | some ad =>
    have hb : (n + c.es.length) * (T e).by_ ≤ 140737488355328 := by
     have hcap : capN (T e).by_ ≤ 8796093022208 := by unfold capN; split <;> omega
     have : (n + c.es.length) * (T e).by_ ≤ 140737488355328 := by
      unfold capN at hlen
      split at hlen
      ·rename_i h16
       exact Nat.le_trans (Nat.mul_le_mul (show n + c.es.length ≤ 8796093022208 by omega) h16) (by omega)
      ·exact Nat.le_trans (Nat.mul_le_mul (show n + c.es.length ≤ 1099511627776 by omega) hby) (by omega)
     omega
    obtain ⟨v', w', r1, r2, r3, _, r5⟩ := run_append_own_at (P := P) w w0.heap.size t ty e i (T e).zero (T e).sz (T e).by_ hsu i1 i4 i2 i3 z1 z2 v1 n xs o1 ad c.es.length cap news n1 (n4 ad rfl) n5 (by have hcap := capN_le (T e).by_; unfold maxLen; omega) hb h.below.size
    exact ⟨v', w', r1, r2, r3, r5⟩
  obtain ⟨v', w', r1, r2, r3, r4⟩ := hrun
  have hrow := o2.cat n2 (by rw [o1.1, o3, o4]) hcat
  have hown : ∀ g, v1.ownBlock = some g → F g = none ∧ g < w.heap.size ∧ w0.heap.size ≤ g ∧ ∀ i bi, (killO st.h ko)[i]? = some (some bi) → ¬ (φ i).occ g := by
   intro g hg
   obtain ⟨id, cc, ss, tt, rfl, hφ, b', hb'⟩ := o6 g hg
   have hlt := o1.lt g hg
   refine ⟨?_, hlt.2, hlt.1, fun i bi hi hc => ?_⟩
   ·rcases (h.heap.blk id b' hb').atC hφ with ⟨p, _⟩ | ⟨g', cap', cur, p, _, p2, _⟩
    ·rw [hφ] at p; cases p
    ·rw [hφ] at p; injection p with e1; subst e1; exact p2
   ·have hne : i ≠ id := by
     rintro rfl
     simp only [killO] at hi
     rw [List.getElem?_set_self (Blk.ext_lt hb')] at hi; simp at hi
    simp only [killO] at hi
    rw [List.getElem?_set_ne (Ne.symm hne)] at hi
    exact hne (h.heap.sep i id bi b' g hi hb' hc (by rw [hφ]; rfl))
  have hkill : RelH F φ w0.heap.size (killO st.h ko) w := by
   cases ko with
   | none => exact h.heap
   | some id => exact h.heap.kill id
  have hlenk : (killO st.h ko).length = st.h.length := by cases ko <;> simp [killO]
  have hstep : RelH F φ w0.heap.size (killO st.h ko) w' := by
   refine hkill.step (fun b o hF => r3.block b (hkill.lt hF) fun hb => ?_) (fun id b g hb hg => r3.block g (hkill.occ_lt hb hg) fun hgo => ?_)
   ·have := (hown b hb.symm).1; rw [hF] at this; cases this
   ·exact (hown g hgo.symm).2.2.2 id b hb hg
  have hbel : Below w0.heap.size w0 w' := h.below.grown r3 h.below.size (fun k hk => (hown k hk).2.2.1)
  have fin : ∀ (l : Loc), BlkOk F (upd φ st.h.length l) w0.heap.size w' st.h.length nb → (∀ i bi g, (killO st.h ko)[i]? = some (some bi) → (φ i).occ g → ¬ l.occ g) →
    RepV F (upd φ st.h.length l) (.own st.h.length nb.es.length) v' →
    ∃ φ', Rel F φ' w0 { st with s := putL st.s d (.own st.h.length nb.es.length), h := killO st.h ko ++ [some nb] } (a.put (some d) v') w' := by
   intro l hl hn hv
   have had := hstep.adoptL nb l (by rw [hlenk]; exact hl) hn (catB_np hcat)
   rw [hlenk] at had
   exact ⟨_, Rel.put (st := { st with h := killO st.h ko ++ [some nb] }) ⟨had.1, h.size, fun i => (h.slots i).le (FLe.refl F) had.2, h.defers, hbel⟩ hdst hv⟩
  rcases r2.2 with ⟨rfl, hn0⟩ | ⟨g, cp, cur, rfl, g1, g2, g3, g4, g5, g6⟩
  ·have hes : nb.es = [] := List.eq_nil_of_length_eq_zero (by omega)
   obtain ⟨φ', hφ'⟩ := fin .nils (.inl ⟨by simp [upd], hes⟩) (fun _ _ _ _ _ h => h) (by rw [hes]; exact .ownNil _ (by simp [upd]))
   exact ⟨_, _, φ', r1, hφ'⟩
  ·have hgF : F g = none := by
    rcases r4 with q | q
    ·exact (hown g (by rw [← q]; rfl)).1
    ·simp [Value.ownBlock] at q; rw [q]; exact h.heap.new_none
   obtain ⟨φ', hφ'⟩ := fin (.at g cp nb.sz nb.et) (.inr (.inl ⟨g, cp, cur, by simp [upd], g1, hgF, by rw [c3, o5]; exact g2, by omega, g4, by rw [hsz]; exact g5, fun i e' he => ⟨(hrow i e' he).1, fun j x hj => by
     obtain ⟨u, u1, u2, u3⟩ := (hrow i e' he).2 j x hj
     refine ⟨u, ?_, u2.le (FLe.refl F) (upd_le h.heap _), u3⟩
     rw [← g6, List.getElem?_take] at u1
     split at u1
     ·rw [← Array.getElem?_toList]; exact u1
     ·cases u1⟩⟩)) (fun i bi g' hi hg' hl => by
    have e1 : g' = g := hl
    subst e1
    rcases r4 with q | q
    ·exact (hown g' (by rw [← q]; rfl)).2.2.2 i bi hi hg'
    ·simp [Value.ownBlock] at q
     have := hkill.occ_lt hi hg'
     omega) (by rw [hnb]; exact .own _ _ g cp nb.sz nb.et (by simp [upd]) (by omega) g4)
   exact ⟨_, _, φ', r1, hφ'⟩
end
end Go.AX
set_option linter.unusedSimpArgs false
set_option linter.unusedVariables false
namespace Go.AX
open Go Go.RowKit
def zv (r : TyRow) : AVal := match r.zero with | .agg cs => .agg (cs.toList.map absV) | v => absV v
def okInt (r : TyRow) : Bool := match r.d with | .int k => decide (r.sz = 1) && (match r.zero with | .int k' n => decide (k = k') && decide (n = 0) | _ => false) | _ => true
/-- A new variable's block. -/
def blk0 (e : TypeId) (r : TyRow) : Option Blk := match r.d with
 | .fn => if r.sz = 1 then some (.gen e 1 [[.junk]]) else none
 | _ => blk1 e r.sz (zv r)
def stepE (T : Tab) (st : St) (d : Option Nat) : Op → Bool × St
 | .alloc e => match d, blk0 e (T e) with
  | some d, some b => (known (T e) && okZero (T e) && decide (d < st.n), { st with s := putL st.s d (.ptr st.h.length 0 0), h := st.h ++ [some b] })
  | _, _ => (false, st)
 | .box e x => match d, blk1 e (T e).sz (sv (opd st.s x)) with
  | some d, some b => (sc true (opd st.s x) && decide (d < st.n), { st with s := putL st.s d (.ptr st.h.length 0 0), h := st.h ++ [some b] })
  | _, _ => (false, st)
 | .store t x v => match d, sv (opd st.s x), cellsA (sv (opd st.s v)) with
  | none, .ptr id i j, some l => match getB st.h id with
   | some b => (known (T t) && sc true (opd st.s x) && sc true (opd st.s v) && decide ((T t).sz = l.length) && (storeB b i j (sv (opd st.s v))).1, { st with h := st.h.set id (some (storeB b i j (sv (opd st.s v))).2) })
   | none => (false, st)
  | none, .rowp id i j, some _ => match getB st.h id, sv (opd st.s v) with
   | some (.rows et k X), .int k' n => (known (T t) && sc true (opd st.s x) && sc true (opd st.s v) && decide ((T t).sz = 1) && decide (k = k') && decide (i < X.length) && decide (j < (X.getD i []).length), { st with h := st.h.set id (some (.rows et k (X.set i ((X.getD i []).set j n)))) })
   | _, _ => (false, st)
  | _, _, _ => (false, st)
 | .makeSlice t l c => match d, (T t).d, sv (opd st.s l), sv (opd st.s c) with
  | some d, .slice e, .int _ n, .int _ m => (known (T e) && okZero (T e) && okInt (T e) && decide ((T e).by_ ≤ 128) && sc true (opd st.s l) && sc true (opd st.s c) && decide (n = m) && decide (0 ≤ n) && decide (n ≤ 1099511627776) && decide (d < st.n),
    { st with s := putL st.s d (.own st.h.length n.toNat), h := st.h ++ [some (zeroB e (T e) n.toNat)] })
  | _, _, _, _ => (false, st)
 | .buildSlice t len parts => match d, (T t).d with
  | some d, .slice e => match partsB e (T e) (parts.toList.map fun p => sv (opd st.s p.2)) with
   | some b => (known (T e) && okZero (T e) && okInt (T e) && decide (len * (T e).sz ≤ 16777216) && decide (parts.toList.map (·.1) = List.range len) && parts.toList.all (fun p => sc true (opd st.s p.2)) && decide (d < st.n),
     { st with s := putL st.s d (.own st.h.length len), h := st.h ++ [some b] })
   | none => (false, st)
  | _, _ => (false, st)
 | .call c => match c.callee, d, c.args.toList, c.argTypes.toList with
  | .builtin .append, some d, [x, y], [t, t'] => match (T t).d with
   | .slice e => match appB e (T e) st.h (sv (opd st.s x)) (sv (opd st.s y)) with
    | some (ko, nb) => (decide (t = t') && known (T e) && okZero (T e) && okInt (T e) && decide ((T e).by_ ≤ 128) && sc true (opd st.s x) && sc true (opd st.s y) && decide (nb.sz = (T e).sz) && decide (nb.es.length ≤ capN (T e).by_) && decide (d < st.n),
      { st with s := putL st.s d (.own st.h.length nb.es.length), h := killO st.h ko ++ [some nb] })
    | none => (false, st)
   | _ => (false, st)
  | _, _, _, _ => (false, st)
 | _ => (false, st)
def isEff : Op → Bool
 | .alloc _ | .box _ _ | .store _ _ _ | .makeSlice _ _ _ | .buildSlice _ _ _ => true
 | .call c => match c.callee with | .builtin .append => true | _ => false
 | _ => false
def gslot (all : Array Oper) (j : Nat) : Option Nat := (all[j]?).bind (·.dst)
def pcOf (all : Array Oper) (s : List (Nat × AVal)) : Option (Nat × Bool) → Bool × Bool
 | none => (true, true)
 | some (j, want) => match gslot all j with
  | some d => match look s d with
   | .bool b => (true, b == want)
   | .opt g (.bool b) => (true, g && (b == want))
   | _ => (false, false)
  | none => (false, false)
def stepP (T : Tab) (all : Array Oper) (o : Oper) (st : St) : Bool × St :=
 match o.dst with
 | some d => ((pcOf all st.s o.guard).1 && (pv T st.h (pcOf all st.s o.guard).2 (opd st.s) o.op).1 && decide (d < st.n),
   { st with s := putL st.s d (match o.guard with | none => (pv T st.h (pcOf all st.s o.guard).2 (opd st.s) o.op).2 | some _ => .opt (pcOf all st.s o.guard).2 (pv T st.h (pcOf all st.s o.guard).2 (opd st.s) o.op).2) })
 | none => (false, st)
def stepA (T : Tab) (all : Array Oper) (o : Oper) (st : St) : Bool × St :=
 if isEff o.op then (o.guard.isNone && (stepE T st o.dst o.op).1, (stepE T st o.dst o.op).2) else stepP T all o st
def runL (T : Tab) (all : Array Oper) : List Oper → St → Bool × St
 | [], st => (true, st)
 | o :: r, st => ((stepA T all o st).1 && (runL T all r (stepA T all o st).2).1, (runL T all r (stepA T all o st).2).2)
def runP (T : Tab) (all : Array Oper) : List Oper → St → Bool × St
 | [], st => (true, st)
 | o :: r, st => ((stepP T all o st).1 && (runP T all r (stepP T all o st).2).1, (runP T all r (stepP T all o st).2).2)
section
variable {P : Program} {T : Tab} {F : Fz} {φ : Phi} {w0 : World} {st : St} {a : Act} {w : World}
theorem zv_rep {r : TyRow} (hz : okZero r = true) : RepV F φ (zv r) r.zero := by
 simp only [okZero, Bool.and_eq_true, decide_eq_true_eq, List.all_eq_true] at hz
 unfold zv
 split
 ·rename_i cs hc
  rw [hc] at hz
  rw [hc]
  refine .agg _ _ (by simp) (fun i v hv => hz.2 v (Array.mem_toList_iff.2 (Array.mem_of_getElem? hv))) fun i x v hx hv => ?_
  rw [List.getElem?_map, Array.getElem?_toList, hv] at hx
  simp at hx; subst hx
  exact absV_rep F φ v
 ·exact absV_rep F φ r.zero
theorem okInt_spec {r : TyRow} (h : okInt r = true) : ∀ k, r.d = .int k → r.sz = 1 ∧ r.zero = .int k 0 := by
 intro k hd
 unfold okInt at h
 rw [hd] at h
 simp only [Bool.and_eq_true, decide_eq_true_eq] at h
 refine ⟨h.1, ?_⟩
 split at h
 ·rename_i k' n hz
  simp only [decide_eq_true_eq, Bool.and_eq_true] at h
  rw [hz, h.2.1, h.2.2]
 ·simp at h
set_option maxHeartbeats 1000000 in
theorem newVar0_ok {P : Program} {F : Fz} {φ : Phi} {w0 : World} {st : St} {a : Act} {w : World} (h : Rel F φ w0 st a w) {et : TypeId} {r : TyRow} {b : Blk} (hz : okZero r = true) (hb : blk0 et r = some b) {d : Nat} (hd : d < st.n) :
  ∃ φ', (newVar et r.zero).run P w = .ok ⟨w.heap.size, 0, none⟩ (w.alloc (.cells r.zero.cells et)) ∧ Rel F φ' w0 { st with s := putL st.s d (.ptr st.h.length 0 0), h := st.h ++ [some b] } (a.put (some d) (.pointer (some ⟨w.heap.size, 0, none⟩))) (w.alloc (.cells r.zero.cells et)) := by
 unfold blk0 at hb
 split at hb
 ·split at hb
  ·rename_i hsz
   cases hb
   simp only [okZero, Bool.and_eq_true, decide_eq_true_eq] at hz
   obtain ⟨⟨z1, _⟩, z3⟩ := hz
   have hone : ∃ u, r.zero.cells[0]? = some u ∧ u.oneCell' = true := by
    have h0 : 0 < r.zero.cells.size := by omega
    refine ⟨r.zero.cells[0], Array.getElem?_eq_getElem h0, ?_⟩
    exact (List.all_eq_true.1 z3) _ (by simp)
   have := h.alloc (hp := rfl) (.gen et 1 [[.junk]]) r.zero.cells 1 (by simp [Blk.es]) (by unfold maxLen; omega) (by show _ = 1 * 1; omega) (fun i e he => by
    match i, he with
    | 0, he =>
     simp [Blk.es] at he; subst he
     refine ⟨rfl, fun j x hx => ?_⟩
     match j, hx with
     | 0, hx =>
      simp at hx; subst hx
      obtain ⟨u, u1, u2⟩ := hone
      exact ⟨u, by simpa using u1, .junk _, u2⟩)
   refine ⟨upd φ st.h.length (.at w.heap.size 1 1 et), by simp only [newVar, newRow, newObj, Sem.run_bind]; rfl, ?_⟩
   refine Rel.put (st := { st with h := st.h ++ [some (.gen et 1 [[.junk]])] }) this hd ?_
   have hp := RepV.ptr (F := F) (φ := upd φ st.h.length (.at w.heap.size 1 1 et)) st.h.length 0 0 w.heap.size 1 1 et (by simp [upd])
   exact (show RepV F (upd φ st.h.length (.at w.heap.size 1 1 et)) (.ptr st.h.length 0 0) (.pointer (some ⟨w.heap.size, 0, none⟩)) by simpa using hp)
  ·cases hb
 ·exact newVar_ok (P := P) h (zv_rep hz) hb hd
theorem stepE_ok (hT : TabOk P T) (h : Rel F φ w0 st a w) {o : Oper} (hc : (stepE T st o.dst o.op).1 = true) {K : Act → World → Prop} {Q : Exit → Act → World → Prop}
  (hK : ∀ a' w' φ', Rel F φ' w0 (stepE T st o.dst o.op).2 a' w' → K a' w') : o.wp P a w K Q := by
 obtain ⟨dst, op, type, pos, after, guard⟩ := o
 simp only at hc hK
 unfold Oper.wp
 cases op <;> simp only [stepE, Bool.false_eq_true] at hc hK
 case alloc e =>
  split at hc
  ·rename_i d b hb
   simp only [hb, Bool.and_eq_true, decide_eq_true_eq] at hc hK
   obtain ⟨φ', r1, r2⟩ := newVar0_ok (P := P) h hc.1.2 hb hc.2
   have : (execOp a.eval ⟨some d, .alloc e, type, pos, after, guard⟩).run P w = .ok (.value (.pointer (some ⟨w.heap.size, 0, none⟩))) (w.alloc (.cells (T e).zero.cells e)) := by
    simp [execOp, Instr.alloc, zero_run hT hc.1.1, r1]
   rw [this]
   exact hK _ _ φ' r2
  ·cases hc
 case box e x =>
  split at hc
  ·rename_i d b hb
   simp only [hb, Bool.and_eq_true, decide_eq_true_eq] at hc hK
   obtain ⟨φ', r1, r2⟩ := newVar_ok (P := P) h (ev_rep h hc.1) hb hc.2
   have : (execOp a.eval ⟨some d, .box e x, type, pos, after, guard⟩).run P w = .ok (.value (.pointer (some ⟨w.heap.size, 0, none⟩))) (w.alloc (.cells (a.eval x).cells e)) := by
    simp [execOp, Instr.box, r1]
   rw [this]
   exact hK _ _ φ' r2
  ·cases hc
 case store t x v =>
  split at hc
  ·rename_i id i j l hx hl
   split at hc
   ·rename_i b hb
    simp only [hx, hl, hb, Bool.and_eq_true, decide_eq_true_eq] at hc hK
    obtain ⟨⟨⟨⟨h1, h2⟩, h3⟩, h4⟩, h5⟩ := hc
    have hp := ev_rep h h2
    rw [hx] at hp
    obtain ⟨w', r1, r2⟩ := store_ok hT h h1 hp (ev_rep h h3) hb hl h4 h5
    have : (execOp a.eval ⟨none, .store t x v, type, pos, after, guard⟩).run P w = .ok .skip w' := by simp [execOp, r1]
    rw [this]
    exact hK _ _ φ r2
   ·cases hc
  ·rename_i id i j l hx hl
   split at hc
   ·rename_i et k X k' n hb hv
    have hl' : cellsA (.int k' n) = some l := by rw [← hv]; exact hl
    simp only [hx, hv, hl', hb, Bool.and_eq_true, decide_eq_true_eq] at hc hK
    obtain ⟨⟨⟨⟨⟨⟨h1, h2⟩, h3⟩, h4⟩, h5⟩, h6⟩, h7⟩ := hc
    have hp := ev_rep h h2
    rw [hx] at hp
    have hq := ev_rep h h3
    rw [hv] at hq
    subst h5
    obtain ⟨w', r1, r2⟩ := storeRow_ok hT h h1 h4 hp hq hb h6 h7
    have : (execOp a.eval ⟨none, .store t x v, type, pos, after, guard⟩).run P w = .ok .skip w' := by simp [execOp, r1]
    rw [this]
    exact hK _ _ φ r2
   ·cases hc
  ·cases hc
 case makeSlice t l c =>
  split at hc
  ·rename_i d e k n k' m hd hl hm
   simp only [hd, hl, hm, Bool.and_eq_true, decide_eq_true_eq] at hc hK
   obtain ⟨⟨⟨⟨⟨⟨⟨⟨⟨h1, h2⟩, h3⟩, h4⟩, h5⟩, h6⟩, h7⟩, h8⟩, h9⟩, h10⟩ := hc
   have q1 := ev_rep h h5
   have q2 := ev_rep h h6
   rw [hl] at q1
   rw [hm] at q2
   obtain ⟨e1, _⟩ := int_inv q1
   obtain ⟨e2, _⟩ := int_inv q2
   obtain ⟨N, rfl⟩ := Int.eq_ofNat_of_zero_le h8
   subst h7
   simp only [Int.toNat_natCast] at hK
   obtain ⟨φ', w', r1, r2⟩ := make_ok (P := P) hT h hd h1 h2 (okInt_spec h3) (k1 := k) (k2 := k') (n := N) (by omega) h4 h10
   have : (execOp a.eval ⟨some d, .makeSlice t l c, type, pos, after, guard⟩).run P w = .ok (.value (.slice (some ⟨w.heap.size, 0, none⟩) N N)) w' := by simp [execOp, e1, e2, r1]
   rw [this]
   exact hK _ _ φ' r2
  ·cases hc
 case buildSlice t len parts =>
  split at hc
  ·rename_i d e hd
   split at hc
   ·rename_i b hb
    simp only [hd, hb, Bool.and_eq_true, decide_eq_true_eq, List.all_eq_true] at hc hK
    obtain ⟨⟨⟨⟨⟨⟨h1, h2⟩, h3⟩, h4⟩, h5⟩, h6⟩, h7⟩ := hc
    have hlen : parts.toList.length = len := by have := congrArg List.length h5; simpa using this
    obtain ⟨φ', w', r1, r2⟩ := build_ok (P := P) hT h hd h1 h2 (fun k hk => (okInt_spec h3 k hk).1) (len := len) (l := parts.toList.map fun p => sv (opd st.s p.2)) (vs := parts.toList.map fun p => (p.1, a.eval p.2)) h4 (by simpa using hlen) (by simpa using hlen) (fun q p x hp hx => by
     rw [List.getElem?_map] at hp hx
     cases hq : parts.toList[q]? with
     | none => rw [hq] at hp; cases hp
     | some u =>
      rw [hq] at hp hx
      simp at hp hx
      subst hp hx
      refine ⟨?_, ev_rep h (h6 u (List.mem_of_getElem? hq))⟩
      have hql : q < len := by
       rcases Nat.lt_or_ge q len with c | c
       ·exact c
       ·rw [List.getElem?_eq_none (by omega)] at hq; cases hq
      have : (parts.toList.map (·.1))[q]? = some u.1 := by rw [List.getElem?_map, hq]; rfl
      rw [h5, List.getElem?_range hql] at this
      injection this with this; exact this.symm) hb h7
    have hparts : parts.map (fun (i, x) => (i, a.eval x)) = (parts.toList.map fun p => (p.1, a.eval p.2)).toArray := by apply Array.toList_inj.1; simp
    have : (execOp a.eval ⟨some d, .buildSlice t len parts, type, pos, after, guard⟩).run P w = .ok (.value (.slice (some ⟨w.heap.size, 0, none⟩) len len)) w' := by
     simp only [execOp, hparts, Sem.run_bind, r1, Result.andThen_ok, Sem.run_pure]
    rw [this]
    exact hK _ _ φ' r2
   ·cases hc
  ·cases hc
 case call c =>
  obtain ⟨callee, args, argTypes⟩ := c
  simp only at hc hK
  split at hc
  ·rename_i d x y t t' ha ht
   split at hc
   ·rename_i e hd
    split at hc
    ·rename_i ko nb hb
     simp only [ha, ht, hd, hb, Bool.and_eq_true, decide_eq_true_eq] at hc hK
     obtain ⟨⟨⟨⟨⟨⟨⟨⟨⟨rfl, h1⟩, h2⟩, h3⟩, h4⟩, h5⟩, h6⟩, h7⟩, h8⟩, h9⟩ := hc
     have ha' : args = #[x, y] := by apply Array.toList_inj.1; simpa using ha
     have ht' : argTypes = #[t, t] := by apply Array.toList_inj.1; simpa using ht
     subst ha' ht'
     obtain ⟨v', w', φ', r1, r2⟩ := append_ok (P := P) (ty := type) hT h hd h1 h2 (fun k hk => (okInt_spec h3 k hk).1) h4 (ev_rep h h5) (ev_rep h h6) hb h7 h8 h9
     have : (execOp a.eval ⟨some d, .call ⟨.builtin .append, #[x, y], #[t, t]⟩, type, pos, after, guard⟩).run P w = .ok (.value v') w' := by
      simp [execOp, resolve, invoke, builtin, r1]
     rw [this]
     exact hK _ _ φ' r2
    ·cases hc
   ·cases hc
  ·cases hc
theorem pc_wanted (h : Rel F φ w0 st a w) {all : Array Oper} {o : Oper} (hc : (pcOf all st.s o.guard).1 = true) : Region.wanted o (yielded all a.tmps) = (pcOf all st.s o.guard).2 := by
 unfold pcOf at hc ⊢
 unfold Region.wanted
 cases hg : o.guard with
 | none => rfl
 | some p =>
  obtain ⟨j, want⟩ := p
  rw [hg] at hc
  simp only at hc ⊢
  split at hc
  ·rename_i d hd
   have hy : ∀ v, a.tmps.getD d undef = v → v ≠ undef → yielded all a.tmps j = match v with | .bool b => some b | _ => none := by
    intro v hv hne
    have hin : d < a.tmps.size := by
     rcases Nat.lt_or_ge d a.tmps.size with q | q
     ·exact q
     ·rw [Array.getD_eq_getD_getElem?, Array.getElem?_eq_none q] at hv; exact absurd hv.symm hne
    have : a.tmps[d]? = some v := by rw [Array.getD_eq_getD_getElem?, Array.getElem?_eq_getElem hin] at hv; rw [Array.getElem?_eq_getElem hin]; exact congrArg some hv
    unfold yielded
    unfold gslot at hd
    rw [hd]
    simp only [Option.bind_some, this]
    split
    ·rename_i b hb; injection hb with hb; rw [hb]
    ·rename_i hb; cases v <;> first | rfl | exact absurd rfl (hb _)
   have hu : a.tmps.getD d undef = undef → yielded all a.tmps j = none := by
    intro hv
    unfold yielded
    unfold gslot at hd
    rw [hd]
    simp only [Option.bind_some]
    cases hq : a.tmps[d]? with
    | none => rfl
    | some v =>
     rw [Array.getD_eq_getD_getElem?, hq] at hv
     simp at hv; subst hv; rfl
   have hr := h.slots d
   split at hc
   ·rename_i b hb
    rw [hb] at hr
    have := bool_inv hr
    rw [hy _ this (by simp [undef])]
    cases b <;> cases want <;> rfl
   ·rename_i g b hb
    rw [hb] at hr
    cases hr with
    | opt _ _ _ r1 r2 =>
     cases g with
     | true =>
      have := bool_inv (r1 rfl)
      rw [hy _ this (by simp [undef])]
      cases b <;> cases want <;> rfl
     | false =>
      rw [hu (r2 rfl)]
      rfl
   ·cases hc
  ·cases hc
/-- A step that touches no memory: the value that it yields, where it is wanted. -/
theorem stepP_ok (hT : TabOk P T) (h : Rel F φ w0 st a w) {all : Array Oper} {o : Oper} (hc : (stepP T all o st).1 = true) :
  (Region.wanted o (yielded all a.tmps) = true ∧ ∃ u, (∀ w', Below w.heap.size w w' → (execOp a.eval o).run P w' = .ok (.value u) w') ∧ Rel F φ w0 (stepP T all o st).2 (a.put o.dst u) w) ∨
  (Region.wanted o (yielded all a.tmps) = false ∧ Rel F φ w0 (stepP T all o st).2 (a.put o.dst undef) w) := by
 unfold stepP at hc ⊢
 cases hd : o.dst with
 | none => rw [hd] at hc; cases hc
 | some d =>
  rw [hd] at hc
  simp only [Bool.and_eq_true, decide_eq_true_eq] at hc ⊢
  obtain ⟨⟨h1, h2⟩, h3⟩ := hc
  rw [pc_wanted h h1]
  cases hpc : (pcOf all st.s o.guard).2 with
  | true =>
   rw [hpc] at h2
   obtain ⟨u, u1, u2⟩ := pv_ok hT h h2
   refine .inl ⟨rfl, u, u1, Rel.put h h3 ?_⟩
   split
   ·exact u2
   ·exact .opt _ _ _ (fun _ => u2) (fun hf => nomatch hf)
  | false =>
   refine .inr ⟨rfl, Rel.put h h3 ?_⟩
   split
   ·rename_i hg; rw [hg] at hpc; simp [pcOf] at hpc
   ·exact .opt _ _ _ (fun hf => nomatch hf) (fun _ => rfl)
end
end Go.AX
set_option linter.unusedSimpArgs false
set_option linter.unusedVariables false
namespace Go.AX
open Go Go.RowKit
section
variable {P : Program} {T : Tab} {w0 : World}
/-- F' says no less than F, and more of new memory alone. -/
def FLn (w0 : World) (F F' : Fz) : Prop := FLe F F' ∧ ∀ b o, F' b = some o → F b = some o ∨ w0.heap.size ≤ b
theorem FLn.refl {w0 : World} (F : Fz) : FLn w0 F F := ⟨FLe.refl F, fun _ _ h => .inl h⟩
theorem FLn.trans {w0 : World} {F G H : Fz} (h : FLn w0 F G) (k : FLn w0 G H) : FLn w0 F H := ⟨h.1.trans k.1, fun b o q => by
 rcases k.2 b o q with r | r
 ·exact h.2 b o r
 ·exact .inr r⟩
/-- What is asked behind a piece of code, said of the model's state. -/
def Lift (w0 : World) (F : Fz) (Q : Exit → St → Prop) (e : Exit) (a : Act) (w : World) : Prop := ∃ st F' φ', Q e st ∧ FLn w0 F F' ∧ Rel F' φ' w0 st a w
def AWP (P : Program) (w0 : World) (c : Code) (Q : Exit → St → Prop) (st : St) : Prop := ∀ F φ a w, Rel F φ w0 st a w → c.wp P (Lift w0 F Q) a w
def AWPL (P : Program) (w0 : World) (all : Array Oper) (Q : Exit → St → Prop) (l : List Oper) (st : St) : Prop := ∀ F φ a w, Rel F φ w0 st a w → wpList P all (Lift w0 F Q) l a w
theorem Lift.le {F F' : Fz} {Q : Exit → St → Prop} {e : Exit} {a : Act} {w : World} (hF : FLn w0 F F') (h : Lift w0 F' Q e a w) : Lift w0 F Q e a w := by
 obtain ⟨st, F2, φ, q, f, r⟩ := h
 exact ⟨st, F2, φ, q, hF.trans f, r⟩
def thenA (K : St → Prop) (Q : Exit → St → Prop) : Exit → St → Prop
 | .normal, st => K st
 | e, st => Q e st
def inBlockA (id : Nat) (Q : Exit → St → Prop) : Exit → St → Prop
 | .exit id', st => if id' = id then Q .normal st else Q (.exit id') st
 | e, st => Q e st
theorem AWP.mono {c : Code} {Q Q' : Exit → St → Prop} {st : St} (h : AWP P w0 c Q st) (hq : ∀ e st, Q e st → Q' e st) : AWP P w0 c Q' st :=
 fun F φ a w hr => wp_mono (h F φ a w hr) fun _ _ _ ⟨st, F', φ', q, f, r⟩ => ⟨st, F', φ', hq _ _ q, f, r⟩
/-- thenA with the next code, its end named once. -/
def thenC (P : Program) (w0 : World) (y : Code) (Q : Exit → St → Prop) : Exit → St → Prop := thenA (AWP P w0 y Q) Q
theorem thenC_normal {y : Code} {Q : Exit → St → Prop} {st : St} (h : AWP P w0 y Q st) : thenC P w0 y Q .normal st := h
theorem thenC_exit {y : Code} {Q : Exit → St → Prop} {id : Nat} {st : St} (h : Q (.exit id) st) : thenC P w0 y Q (.exit id) st := h
theorem thenC_ret {y : Code} {Q : Exit → St → Prop} {st : St} (h : Q .ret st) : thenC P w0 y Q .ret st := h
theorem inBlockA_normal {id : Nat} {Q : Exit → St → Prop} {st : St} (h : Q .normal st) : inBlockA id Q .normal st := h
theorem inBlockA_ret {id : Nat} {Q : Exit → St → Prop} {st : St} (h : Q .ret st) : inBlockA id Q .ret st := h
theorem AWP_seq {x y : Code} {Q : Exit → St → Prop} {st : St} (h : AWP P w0 x (thenC P w0 y Q) st) : AWP P w0 (.seq x y) Q st := by
 intro F φ a w hr
 refine wp_seq (wp_mono (h F φ a w hr) fun e a' w' hq => ?_)
 obtain ⟨st', F', φ', q, f, r⟩ := hq
 cases e with
 | normal => exact wp_mono (q F' φ' a' w' r) fun _ _ _ hl => Lift.le f hl
 | _ => exact ⟨st', F', φ', q, f, r⟩
theorem AWP_skip {Q : Exit → St → Prop} {st : St} (h : Q .normal st) : AWP P w0 .skip Q st := fun F φ _ _ hr => wp_skip ⟨st, F, φ, h, FLn.refl F, hr⟩
theorem AWP_ret {Q : Exit → St → Prop} {st : St} (h : Q .ret st) : AWP P w0 .ret Q st := fun F φ _ _ hr => wp_ret ⟨st, F, φ, h, FLn.refl F, hr⟩
theorem AWP_exit {id : Nat} {Q : Exit → St → Prop} {st : St} (h : Q (.exit id) st) : AWP P w0 (.exit id) Q st := fun F φ _ _ hr => wp_exit ⟨st, F, φ, h, FLn.refl F, hr⟩
theorem AWP_block {id : Nat} {c : Code} {Q : Exit → St → Prop} {st : St} (h : AWP P w0 c (inBlockA id Q) st) : AWP P w0 (.block id c) Q st := by
 intro F φ a w hr
 refine wp_block (wp_mono (h F φ a w hr) fun e a' w' hq => ?_)
 obtain ⟨st', F', φ', q, f, r⟩ := hq
 cases e with
 | exit id' =>
  simp only [inBlockA] at q
  simp only [Exit.inBlock]
  split
  ·rename_i hid; rw [if_pos hid] at q; exact ⟨st', F', φ', q, f, r⟩
  ·rename_i hid; rw [if_neg hid] at q; exact ⟨st', F', φ', q, f, r⟩
 | _ => exact ⟨st', F', φ', q, f, r⟩
theorem AWP_cond {c : Operand} {x y : Code} {Q : Exit → St → Prop} {st : St} {b : Bool} (hc : opd st.s c = .bool b) (ht : b = true → AWP P w0 x Q st) (hf : b = false → AWP P w0 y Q st) : AWP P w0 (.cond c x y) Q st := by
 intro F φ a w hr
 have := opd_rep hr c
 rw [hc] at this
 exact wp_cond_split (bool_inv this) (fun h => ht h F φ a w hr) (fun h => hf h F φ a w hr)
theorem AWPL_nil {all : Array Oper} {Q : Exit → St → Prop} {st : St} (h : Q .normal st) : AWPL P w0 all Q [] st := fun F φ _ _ hr => wpList_nil ⟨st, F, φ, h, FLn.refl F, hr⟩
theorem AWPL_step (hT : TabOk P T) {all : Array Oper} {Q : Exit → St → Prop} {st : St} {o : Oper} {rest : List Oper} (hc : (stepA T all o st).1 = true) (h : AWPL P w0 all Q rest (stepA T all o st).2) : AWPL P w0 all Q (o :: rest) st := by
 intro F φ a w hr
 unfold stepA at hc h
 by_cases he : isEff o.op = true
 ·rw [if_pos he] at hc h
  simp only [Bool.and_eq_true, Option.isNone_iff_eq_none] at hc
  refine wpList_plain hc.1 fun K hK => ?_
  exact stepE_ok hT hr hc.2 fun a' w' φ' hr' => hK _ _ (h F φ' a' w' hr')
 ·rw [if_neg he] at hc h
  refine wpList_step fun K hK => ?_
  rcases stepP_ok hT hr hc with ⟨h1, u, h2, h3⟩ | ⟨h1, h3⟩
  ·rw [if_pos h1]
   unfold Oper.wp
   rw [h2 w (Below.refl _ _)]
   exact hK _ _ (h F φ _ _ h3)
  ·rw [if_neg (by simp [h1])]
   exact hK _ _ (h F φ _ _ h3)
theorem AWPL_runL (hT : TabOk P T) {all : Array Oper} {Q : Exit → St → Prop} {rest : List Oper} : ∀ {l : List Oper} {st : St}, (runL T all l st).1 = true → AWPL P w0 all Q rest (runL T all l st).2 → AWPL P w0 all Q (l ++ rest) st
 | [], _, _, h => h
 | o :: l, st, hc, h => by
  simp only [runL, Bool.and_eq_true] at hc h
  exact AWPL_step hT hc.1 (AWPL_runL hT hc.2 h)
theorem AWP_region {id : Nat} {all : Array Oper} {Q : Exit → St → Prop} {st : St} (h : AWPL P w0 all Q all.toList st) : AWP P w0 (.region id all false) Q st :=
 fun F φ a w hr => wp_region_list (h F φ a w hr)
theorem still_runP (hT : TabOk P T) {all : Array Oper} {F : Fz} {φ : Phi} {w : World} {L : Act → Prop} : ∀ {l : List Oper} {st : St} {a : Act}, (runP T all l st).1 = true → Rel F φ w0 st a w →
  (∀ a', Rel F φ w0 (runP T all l st).2 a' w → L a') → wpStill P all w L l a
 | [], _, _, _, hr, h => h _ hr
 | o :: l, st, a, hc, hr, h => by
  simp only [runP, Bool.and_eq_true] at hc h
  unfold wpStill
  rcases stepP_ok hT hr hc.1 with ⟨h1, u, h2, h3⟩ | ⟨h1, h3⟩
  ·rw [if_pos h1]
   unfold Oper.still
   rw [h2 w (Below.refl _ _)]
   exact ⟨rfl, still_runP hT hc.2 h3 h⟩
  ·rw [if_neg (by simp [h1])]
   exact still_runP hT hc.2 h3 h
theorem Rel.drew' {F : Fz} {φ : Phi} {st : St} {a : Act} {w : World} (h : Rel F φ w0 st a w) : Rel F φ w0 st a { w with drawn := w.drawn + 1 } :=
 ⟨⟨h.heap.agree, h.heap.unused, fun id b hb => by
  rcases h.heap.blk id b hb with q | ⟨g, cap, cur, q⟩ | hX
  ·exact .inl q
  ·exact .inr (.inl ⟨g, cap, cur, q⟩)
  ·exact .inr (.inr (hX.le rfl (fun x hx => ⟨(hX.occ hx).1, (hX.occ hx).2.1⟩) fun x hx => rfl)), h.heap.sep, h.heap.good, h.heap.pins⟩, h.size, h.slots, h.defers, ⟨h.below.os, h.below.tape, h.below.output, h.below.size, h.below.block⟩⟩
/-- A region that draws its order and whose operations touch no memory. -/
theorem AWP_draw (hT : TabOk P T) (K : List Nat) {id : Nat} {all : Array Oper} {Q : Exit → St → Prop} {st : St} (hm : P.follows .mixedOrders = true) (hB : Region.lexB .any all = true)
  (h : ∀ c st', runP T all all.toList st = (c, st') → c = true ∧ Q .normal { st' with s := keepL K st'.s }) : AWP P w0 (.region id all true) Q st := by
 intro F φ a w hr
 obtain ⟨h1, h2⟩ := h _ _ rfl
 refine wp_region_still hm hB ?_
 exact still_runP hT h1 hr.drew' fun a' hr' => ⟨_, F, φ, h2, FLn.refl F, hr'.keep K⟩
end
end Go.AX
set_option linter.unusedSimpArgs false
set_option linter.unusedVariables false
namespace Go.AX
open Go Go.RowKit
/-! ### other names for blocks -/
def bigId : Nat := 1000000000
def badA : AVal := .own bigId 0
def renI (ρ : List Nat) (id : Nat) : Nat := (ρ[id]?).getD bigId
def ren0 (ρ : List Nat) : AVal → AVal
 | .own id n => .own (renI ρ id) n
 | .ownN id n => .ownN (renI ρ id) n
 | .ptr id i j => .ptr (renI ρ id) i j
 | .mp id => .mp (renI ρ id)
 | .row id i n => .row (renI ρ id) i n
 | .rowp id i j => .rowp (renI ρ id) i j
 | .agg _ | .tup _ | .func _ _ | .opt _ _ => badA
 | x => x
def ren1 (ρ : List Nat) : AVal → AVal
 | .agg l => .agg (l.map (ren0 ρ))
 | .func f l => .func f (l.map (ren0 ρ))
 | x => ren0 ρ x
def ren (ρ : List Nat) : AVal → AVal
 | .tup l => .tup (l.map (ren1 ρ))
 | x => ren1 ρ x
def renB (ρ : List Nat) : Blk → Blk
 | .ints et k xs => .ints et k xs
 | .gen et sz es => .gen et sz (es.map fun e => e.map (ren0 ρ))
 | .pin i l => .pin (renI ρ i) l
 | .xo Pd => .xo Pd
 | .rows et k X => .rows et k X
 | .outs et rid n f len => .outs et (renI ρ rid) n f len
def phiR (φ : Phi) (ρ : List Nat) : Phi := fun id => match ρ[id]? with | some k => φ k | none => .unused
section
variable {P : Program} {T : Tab} {F : Fz} {φ : Phi} {w0 : World} {st : St} {a : Act} {w : World}
theorem bad_own {n : Nat} {v : Value} (hb : φ bigId = .unused) (h : RepV F φ (.own bigId n) v) : False := by
 cases h with
 | own _ _ g cap sz et q => rw [hb] at q; cases q
 | ownNil _ q => rw [hb] at q; cases q
theorem bad_ownN {n : Nat} {v : Value} (hb : φ bigId = .unused) (h : RepV F φ (.ownN bigId n) v) : False := by
 cases h with
 | ownN _ _ g cap sz et q => rw [hb] at q; cases q
theorem bad_ptr {i j : Nat} {v : Value} (hb : φ bigId = .unused) (h : RepV F φ (.ptr bigId i j) v) : False := by
 cases h with | ptr _ _ _ g cap sz et q => rw [hb] at q; cases q
theorem ren0_rep {ρ : List Nat} (hb : φ bigId = .unused) {x : AVal} {v : Value} (h : RepV F φ (ren0 ρ x) v) : RepV F (phiR φ ρ) x v := by
 cases x
 case own id n =>
  simp only [ren0, renI] at h
  cases hr : ρ[id]? with
  | none => rw [hr] at h; exact (bad_own hb h).elim
  | some k =>
   rw [hr] at h
   simp only [Option.getD_some] at h
   cases h with
   | own _ _ g cap sz et q1 q2 q3 => exact .own _ _ g cap sz et (by simp [phiR, hr, q1]) q2 q3
   | ownNil _ q => exact .ownNil _ (by simp [phiR, hr, q])
 case ownN id n =>
  simp only [ren0, renI] at h
  cases hr : ρ[id]? with
  | none => rw [hr] at h; exact (bad_ownN hb h).elim
  | some k =>
   rw [hr] at h
   simp only [Option.getD_some] at h
   cases h with
   | ownN _ _ g cap sz et q1 q2 q3 => exact .ownN _ _ g cap sz et (by simp [phiR, hr, q1]) q2 q3
 case ptr id i j =>
  simp only [ren0, renI] at h
  cases hr : ρ[id]? with
  | none => rw [hr] at h; exact (bad_ptr hb h).elim
  | some k =>
   rw [hr] at h
   simp only [Option.getD_some] at h
   cases h with
   | ptr _ _ _ g cap sz et q1 => exact .ptr _ _ _ g cap sz et (by simp [phiR, hr, q1])
 case mp id =>
  simp only [ren0, renI] at h
  cases hr : ρ[id]? with
  | none => rw [hr] at h; simp only [Option.getD_none] at h; cases h with | mp _ g q => rw [hb] at q; cases q
  | some k =>
   rw [hr] at h
   simp only [Option.getD_some] at h
   cases h with | mp _ g q => exact .mp _ g (by simp [phiR, hr, q])
 case row id i n =>
  simp only [ren0, renI] at h
  cases hr : ρ[id]? with
  | none => rw [hr] at h; simp only [Option.getD_none] at h; cases h with
   | row _ _ _ g c gs et q => rw [hb] at q; cases q
   | rowNil _ _ gs et q => rw [hb] at q; cases q
  | some k =>
   rw [hr] at h
   simp only [Option.getD_some] at h
   cases h with
   | row _ _ _ g c gs et q q1 q2 q3 => exact .row _ _ _ g c gs et (by simp [phiR, hr, q]) q1 q2 q3
   | rowNil _ _ gs et q q1 => exact .rowNil _ _ gs et (by simp [phiR, hr, q]) q1
 case rowp id i j =>
  simp only [ren0, renI] at h
  cases hr : ρ[id]? with
  | none => rw [hr] at h; simp only [Option.getD_none] at h; cases h with | rowp _ _ _ g c gs et q => rw [hb] at q; cases q
  | some k =>
   rw [hr] at h
   simp only [Option.getD_some] at h
   cases h with | rowp _ _ _ g c gs et q q1 => exact .rowp _ _ _ g c gs et (by simp [phiR, hr, q]) q1
 case agg => exact (bad_own hb h).elim
 case tup => exact (bad_own hb h).elim
 case func => exact (bad_own hb h).elim
 case opt => exact (bad_own hb h).elim
 case ints => cases h with | ints _ _ _ h => cases h with | imm _ _ A n c u h1 h2 h3 h4 h5 h6 h7 => exact .ints _ _ _ (.imm _ _ A n c u h1 h2 h3 h4 h5 h6 h7)
 case intp => cases h with | intp _ _ _ h => cases h with | immp _ ad u h1 h2 => exact .intp _ _ _ (.immp _ ad u h1 h2)
 case fn => cases h with | fn _ _ _ _ h => cases h with | imm _ _ A n c u h1 h2 h3 h4 h5 h6 h7 => exact .fn _ _ _ _ (.imm _ _ A n c u h1 h2 h3 h4 h5 h6 h7)
 case imm => cases h with | imm _ _ A n c u h1 h2 h3 h4 h5 h6 h7 => exact .imm _ _ A n c u h1 h2 h3 h4 h5 h6 h7
 case immp => cases h with | immp _ ad u h1 h2 => exact .immp _ ad u h1 h2
 all_goals (cases h; constructor <;> assumption)
theorem map_get {f : AVal → AVal} {l : List AVal} {i : Nat} {x : AVal} (h : l[i]? = some x) : (l.map f)[i]? = some (f x) := by rw [List.getElem?_map, h]; rfl
theorem ren1_rep {ρ : List Nat} (hb : φ bigId = .unused) {x : AVal} {v : Value} (h : RepV F φ (ren1 ρ x) v) : RepV F (phiR φ ρ) x v := by
 cases x
 case agg l =>
  cases h with | agg _ vs hl h1 h2 => exact .agg l vs (by simpa using hl) h1 fun i x v hx hv => ren0_rep hb (h2 i _ v (map_get hx) hv)
 case func f l =>
  cases h with | func _ _ vs hl h2 => exact .func f l vs (by simpa using hl) fun i x v hx hv => ren0_rep hb (h2 i _ v (map_get hx) hv)
 all_goals exact ren0_rep hb h
theorem ren_rep {ρ : List Nat} (hb : φ bigId = .unused) {x : AVal} {v : Value} (h : RepV F φ (ren ρ x) v) : RepV F (phiR φ ρ) x v := by
 cases x
 case tup l =>
  cases h with | tup _ vs hl h2 => exact .tup l vs (by simpa using hl) fun i x v hx hv => ren1_rep hb (h2 i _ v (map_get hx) hv)
 all_goals exact ren1_rep hb h
theorem renB_es (ρ : List Nat) (b : Blk) : (renB ρ b).es = b.es.map (fun e => e.map (ren0 ρ)) ∧ (renB ρ b).sz = b.sz ∧ (renB ρ b).et = b.et := by
 cases b with
 | outs et rid m f len =>
  refine ⟨?_, rfl, rfl⟩
  simp only [renB, Blk.es, fnEs, List.map_map]
  refine List.map_congr_left fun i _ => ?_
  simp only [outE, Function.comp]
  cases f i <;> rfl
 | _ => simp [renB, Blk.es, Blk.sz, Blk.et, intEs, ren0]
/-- Fewer blocks, under other names. -/
theorem RelH.ren {base : Nat} {H H' : List (Option Blk)} (h : RelH F φ base H w) {ρ : List Nat} (hb : H.length ≤ bigId) (hnd : ρ.Nodup) (hl : ρ.length = H'.length)
  (hH : ∀ (i : Nat) (b : Blk), H'[i]? = some (some b) → ∃ k : Nat, ρ[i]? = some k ∧ H[k]? = some (some (renB ρ b))) : RelH F (phiR φ ρ) base H' w := by
 have hbig : φ bigId = .unused := h.unused _ hb
 refine ⟨h.agree, fun id hid => ?_, fun id b hb' => ?_, fun i j bi bj g hi hj h1 h2 => ?_, h.good, fun j i l hj => by
  obtain ⟨k, hk, hHk⟩ := hH j _ hj
  obtain ⟨p1, p2⟩ := h.pins k _ l hHk
  unfold renI at p1
  cases hr : ρ[i]? with
  | none => rw [hr] at p1; simp only [Option.getD_none] at p1; rw [hbig] at p1; exact absurd p1.symm p2
  | some m => rw [hr] at p1; exact ⟨by simp only [phiR, hr]; exact p1, p2⟩⟩
 ·unfold phiR; rw [List.getElem?_eq_none (by omega)]
 ·obtain ⟨k, hk, hHk⟩ := hH id b hb'
  obtain ⟨r1, r2, r3⟩ := renB_es ρ b
  rcases h.blk k _ hHk with ⟨q1, q2⟩ | ⟨g, cap, cur, q1, q2, q3, q4, q5, q6, q7, q8⟩ | hX
  rotate_left 2
  ·refine .inr (.inr ?_)
   have e0 : phiR φ ρ id = φ k := by simp [phiR, hk]
   have hx : BlkX F (phiR φ ρ) base w id (renB ρ b) := hX.le e0 (fun x hx => ⟨(hX.occ hx).1, (hX.occ hx).2.1⟩) fun x _ => rfl
   cases b <;> first | exact hx | exact False.elim hX
  ·exact .inl ⟨by simp [phiR, hk, q1], by rw [r1] at q2; simpa using q2⟩
  ·rw [r2] at q1 q7 q8
   rw [r3] at q1 q4
   rw [r1] at q5 q8
   refine .inr (.inl ⟨g, cap, cur, by simp [phiR, hk, q1], q2, q3, q4, by simpa using q5, q6, q7, fun i e he => ?_⟩)
   have he' : (b.es.map (fun e => e.map (ren0 ρ)))[i]? = some (e.map (ren0 ρ)) := by rw [List.getElem?_map, he]; rfl
   refine ⟨by simpa using (q8 i _ he').1, fun j x hx => ?_⟩
   obtain ⟨u, u1, u2, u3⟩ := (q8 i _ he').2 j _ (map_get hx)
   exact ⟨u, u1, ren0_rep hbig u2, u3⟩
 ·obtain ⟨ki, hki, hHi⟩ := hH i bi hi
  obtain ⟨kj, hkj, hHj⟩ := hH j bj hj
  simp only [phiR, hki] at h1
  simp only [phiR, hkj] at h2
  have hkk := h.sep ki kj _ _ g hHi hHj h1 h2
  subst hkk
  have hi' : i < ρ.length := (List.getElem?_eq_some_iff.1 hki).1
  have hj' : j < ρ.length := (List.getElem?_eq_some_iff.1 hkj).1
  have e : ρ[i] = ρ[j] := by
   have a1 := (List.getElem?_eq_some_iff.1 hki).2
   have a2 := (List.getElem?_eq_some_iff.1 hkj).2
   rw [a1, a2]
  have hp := List.pairwise_iff_getElem.1 hnd
  rcases Nat.lt_trichotomy i j with q | q | q
  ·exact absurd e (hp i j hi' hj' q)
  ·exact q
  ·exact absurd e.symm (hp j i hj' hi' q)
/-- A state that says less of the same. -/
def WkS (ρ : List Nat) (s : List (Nat × AVal)) : List (Nat × AVal) → Prop
 | [] => True
 | (i, x) :: r => (look s i = ren ρ x ∨ x = .junk) ∧ WkS ρ s r
def WkH (ρ : List Nat) (H : List (Option Blk)) : Nat → List (Option Blk) → Prop
 | _, [] => True
 | i, none :: r => WkH ρ H (i + 1) r
 | i, some b :: r => H[renI ρ i]? = some (some (renB ρ b)) ∧ WkH ρ H (i + 1) r
structure Wk (ρ : List Nat) (st st' : St) : Prop where
 n : st'.n = st.n
 big : st.h.length ≤ bigId
 nodup : ρ.Nodup
 len : ρ.length = st'.h.length
 s : WkS ρ st.s st'.s
 h : WkH ρ st.h 0 st'.h
theorem WkS.look {ρ : List Nat} {s : List (Nat × AVal)} : ∀ {s' : List (Nat × AVal)}, WkS ρ s s' → ∀ i, look s i = ren ρ (look s' i) ∨ AX.look s' i = .junk
 | [], _, _ => .inr rfl
 | (k, x) :: r, h, i => by
  simp only [WkS] at h
  simp only [AX.look]
  by_cases hk : k = i
  ·subst hk; simp only [if_true]; exact h.1
  ·simp only [if_neg hk]; exact WkS.look h.2 i
theorem WkH.get {ρ : List Nat} {H : List (Option Blk)} : ∀ {H' : List (Option Blk)} {k : Nat}, WkH ρ H k H' → ∀ (i : Nat) (b : Blk), H'[i]? = some (some b) → H[renI ρ (k + i)]? = some (some (renB ρ b))
 | [], _, _, i, b, hb => by simp at hb
 | none :: r, k, h, i, b, hb => by
  match i, hb with
  | 0, hb => simp at hb
  | i + 1, hb => have := WkH.get (k := k + 1) h i b (by simpa using hb); rwa [show k + 1 + i = k + (i + 1) by omega] at this
 | some b0 :: r, k, h, i, b, hb => by
  match i, hb with
  | 0, hb => simp at hb; subst hb; exact h.1
  | i + 1, hb => have := WkH.get (k := k + 1) h.2 i b (by simpa using hb); rwa [show k + 1 + i = k + (i + 1) by omega] at this
theorem Rel.wk {ρ : List Nat} {st st' : St} (h : Rel F φ w0 st a w) (hw : Wk ρ st st') : Rel F (phiR φ ρ) w0 st' a w := by
 have hbig : φ bigId = .unused := h.heap.unused _ hw.big
 refine ⟨h.heap.ren hw.big hw.nodup hw.len fun i b hb => ?_, by rw [hw.n]; exact h.size, fun i => ?_, h.defers, h.below⟩
 ·have := hw.h.get i b hb
  rw [Nat.zero_add] at this
  have hi : i < ρ.length := by
   rw [hw.len]
   rcases Nat.lt_or_ge i st'.h.length with q | q
   ·exact q
   ·rw [List.getElem?_eq_none q] at hb; cases hb
  refine ⟨ρ[i], List.getElem?_eq_getElem hi, ?_⟩
  simpa [renI, List.getElem?_eq_getElem hi] using this
 ·rcases hw.s.look i with q | q
  ·have := h.slots i
   rw [q] at this
   exact ren_rep hbig this
  ·rw [q]; exact .junk _
theorem AWP_wk {c : Code} {Q : Exit → St → Prop} {st st' : St} (ρ : List Nat) (hw : Wk ρ st st') (h : AWP P w0 c Q st') : AWP P w0 c Q st := fun F _ a w hr => h F _ a w (hr.wk hw)
/-! ### what is said of a function -/
def Agree (F : Fz) (w : World) : Prop := (∀ b o, F b = some o → w.heap[b]? = some o) ∧ GoodF F
/-- LISTS IN, NEW LISTS OUT: handed 'args' (lists that nobody writes) the function answers 'r', over the new blocks H; nothing that was there has turned. -/
def Pure (P : Program) (f : FuncId) (args : List AVal) (r : AVal) (H : List Blk) : Prop :=
 ∀ (w : World) (F : Fz) (vs : Array Value), Agree F w → args.length = vs.size → (∀ (i : Nat) (x : AVal) (v : Value), args[i]? = some x → vs[i]? = some v → RepV F φ0 x v) →
  Calls P f vs w fun e w' => ∃ v F' φ', e = .returned v ∧ FLn w F F' ∧ RelH F' φ' w.heap.size (H.map some) w' ∧ RepV F' φ' r v ∧ Below w.heap.size w w'
def resV (T : Tab) (st : St) : ResultVar → Bool × AVal
 | .tmp t => (true, look st.s t)
 | .cell c t => (known (T t) && (loadA (T t) st.h (look st.s c)).1, (loadA (T t) st.h (look st.s c)).2)
def resA (T : Tab) (st : St) (l : List ResultVar) : Bool × AVal :=
 match l with
 | [x] => resV T st x
 | l => (l.all fun x => (resV T st x).1, .tup (l.map fun x => (resV T st x).2))
theorem resV_ok (hT : TabOk P T) (h : Rel F φ w0 st a w) {x : ResultVar} (hc : (resV T st x).1 = true) :
  ∃ v, (match x with | .tmp t => (pure (a.tmps.getD t undef) : Sem Value) | .cell c t => do loadVar t (← asAddr (a.tmps.getD c undef))).run P w = .ok v w ∧ RepV F φ (resV T st x).2 v := by
 cases x with
 | tmp t => exact ⟨_, rfl, h.slots t⟩
 | cell c t =>
  simp only [resV, Bool.and_eq_true] at hc
  have hs := h.slots c
  obtain ⟨v, h1, h2⟩ := load_ok hT h.heap hc.1 hs hc.2
  have h1 := h1 w (Below.refl _ _)
  refine ⟨v, ?_, h2⟩
  have hp : ∃ ad, a.tmps.getD c undef = .pointer (some ad) := by
   have h3 := hc.2
   generalize look st.s c = x at hs h3
   generalize a.tmps.getD c undef = u at hs
   cases hs <;> simp only [loadA, Bool.false_eq_true] at h3
   ·exact ⟨_, rfl⟩
   ·exact ⟨_, rfl⟩
   ·rename_i h4; cases h4; exact ⟨_, rfl⟩
   ·exact ⟨_, rfl⟩
  obtain ⟨ad, hp⟩ := hp
  rw [hp] at h1
  simp only [hp]
  simpa [asAddr, Instr.loadAt, Instr.sureAddr] using h1
theorem res_ok (hT : TabOk P T) (h : Rel F φ w0 st a w) {fn : Func} {l : List ResultVar} (hl : fn.results = l.toArray) (hc : (resA T st l).1 = true) : ∃ v, (results fn a.tmps).run P w = .ok v w ∧ RepV F φ (resA T st l).2 v := by
 have key : ∀ (l : List ResultVar), (∀ x ∈ l, (resV T st x).1 = true) → ∃ vs : List Value, (l.mapM (m := Sem) fun
   | .tmp t => pure (a.tmps.getD t undef)
   | .cell c t => do loadVar t (← asAddr (a.tmps.getD c undef))).run P w = .ok vs w ∧ vs.length = l.length ∧ ∀ (i : Nat) (x : ResultVar) (v : Value), l[i]? = some x → vs[i]? = some v → RepV F φ (resV T st x).2 v := by
  intro l
  induction l with
  | nil => intro _; exact ⟨[], by simp, rfl, fun i x v hx => by simp at hx⟩
  | cons x r ih =>
   intro hall
   obtain ⟨v, v1, v2⟩ := resV_ok hT h (hall x (by simp))
   obtain ⟨vs, s1, s2, s3⟩ := ih fun y hy => hall y (by simp [hy])
   refine ⟨v :: vs, ?_, by simp [s2], fun i y u hy hu => ?_⟩
   ·rw [List.mapM_cons]
    simp only [Sem.run_bind, v1, Result.andThen_ok, s1, Sem.run_pure]
   ·match i, hy, hu with
    | 0, hy, hu => simp at hy hu; subst hy hu; exact v2
    | i + 1, hy, hu => exact s3 i y u (by simpa using hy) (by simpa using hu)
 have hall : ∀ x ∈ l, (resV T st x).1 = true := by
  unfold resA at hc
  split at hc
  ·intro x hx; simp at hx; subst hx; exact hc
  ·simpa using hc
 obtain ⟨vs, s1, s2, s3⟩ := key l hall
 have hrun : (results fn a.tmps).run P w = .ok (if h : vs.length = 1 then vs[0] else .tuple vs.toArray) w := by
  unfold results
  rw [hl]
  simp only [List.mapM_toArray, Sem.run_bind, Sem.run_map, Sem.run_pure]
  generalize hq : Sem.run P (List.mapM _ l) w = q
  have : q = .ok vs w := hq.symm.trans s1
  subst this
  simp only [Result.andThen_ok, List.size_toArray, List.getElem_toArray]
 refine ⟨_, hrun, ?_⟩
 unfold resA
 split
 ·rename_i x
  rw [dif_pos (by simpa using s2)]
  exact s3 0 x _ rfl (List.getElem?_eq_getElem (by rw [s2]; simp))
 ·rename_i hne
  rw [dif_neg (by rw [s2]; intro h1; match l, h1, hne with | [x], _, hne => exact hne x rfl)]
  refine .tup _ _ (by simp [s2]) fun i x v hx hv => ?_
  rw [List.getElem?_map] at hx
  cases hq : l[i]? with
  | none => rw [hq] at hx; cases hx
  | some q =>
   rw [hq] at hx
   simp at hx; subst hx
   exact s3 i q v hq (by simpa using hv)
/-! ### what is shown of a function -/
def enumA : Nat → List AVal → List (Nat × AVal)
 | _, [] => []
 | i, x :: r => (i, x) :: enumA (i + 1) r
theorem look_enumA : ∀ (l : List AVal) (k i : Nat), look (enumA k l) i = if k ≤ i then (l[i - k]?).getD .junk else .junk
 | [], k, i => by simp [enumA, look]
 | x :: r, k, i => by
  simp only [enumA, look]
  rw [look_enumA r (k + 1) i]
  by_cases h : k = i
  ·subst h; simp
  ·by_cases h2 : k ≤ i
   ·rw [if_neg h, if_pos (by omega), if_pos h2, show i - k = (i - (k + 1)) + 1 by omega, List.getElem?_cons_succ]
   ·rw [if_neg h, if_neg (by omega), if_neg h2]
/-- Where the function ends: it answers r over the new blocks H. -/
def Ends (T : Tab) (l : List ResultVar) (r : AVal) (H : List Blk) (e : Exit) (st : St) : Prop :=
 (e = .ret ∨ e = .normal) ∧ (resA T st l).1 = true ∧ ∃ ρ, (resA T st l).2 = ren ρ r ∧ Wk ρ { st with s := [] } ⟨st.n, [], H.map some⟩
theorem Pure_intro (hT : TabOk P T) {f : FuncId} {fn : Func} {c : Code} {n : Nat} {l : List ResultVar} {args : List AVal} {r : AVal} {H : List Blk} (hf : P.funcs[f]? = some fn) (hb : fn.body = some c) (hn : fn.ntmps = n) (hl : fn.results = l.toArray)
  (hle : args.length ≤ n) (h : ∀ w0, AWP P w0 c (Ends T l r H) ⟨n, enumA 0 args, []⟩) : Pure P f args r H := by
 intro w F vs hag hlen hargs
 refine calls_of_wp hf hb ?_
 refine wp_mono (h w F φ0 _ w ⟨⟨hag.1, fun _ _ => rfl, fun id b hb => by simp at hb, fun i j bi bj g hi => by simp at hi, hag.2, fun j i l hj => by simp at hj⟩, ?_, fun i => ?_, rfl, Below.refl _ _⟩) ?_
 ·simp; omega
 ·show RepV F φ0 (look (enumA 0 args) i) _
  rw [look_enumA, if_pos (Nat.zero_le _), Nat.sub_zero]
  cases hi : args[i]? with
  | none => exact .junk _
  | some x =>
   have hil : i < vs.size := by
    rw [← hlen]
    rcases Nat.lt_or_ge i args.length with q | q
    ·exact q
    ·rw [List.getElem?_eq_none q] at hi; cases hi
   have hv : vs[i]? = some vs[i] := Array.getElem?_eq_getElem hil
   have : (vs ++ Array.replicate (fn.ntmps - vs.size) undef).getD i undef = vs[i] := by
    rw [Array.getD_eq_getD_getElem?, Array.getElem?_append_left hil, hv]; rfl
   rw [this]
   exact hargs i x _ hi hv
 ·intro e a' w' hq
  obtain ⟨st', F', φ', ⟨he, hc, ρ, hr, hw⟩, hF, hrel⟩ := hq
  obtain ⟨v, v1, v2⟩ := res_ok hT hrel hl hc
  have hbig : φ' bigId = .unused := hrel.heap.unused _ hw.big
  rw [hr] at v2
  have hrel' : Rel F' φ' w { st' with s := [] } a' w' := ⟨hrel.heap, hrel.size, fun i => .junk _, hrel.defers, hrel.below⟩
  have hfin : ∃ v F' φ', Ending.returned v = .returned v ∧ FLn w F F' ∧ RelH F' φ' w.heap.size (H.map some) w' ∧ RepV F' φ' r v ∧ Below w.heap.size w w' := ⟨v, F', _, rfl, hF, (hrel'.wk hw).heap, ren_rep hbig v2, hrel.below⟩
  have hR : ∃ v2 F' φ', Ending.returned v = .returned v2 ∧ FLn w F F' ∧ RelH F' φ' w.heap.size (H.map some) w' ∧ RepV F' φ' r v2 ∧ Below w.heap.size w w' := ⟨v, F', _, rfl, hF, (hrel'.wk hw).heap, ren_rep hbig v2, hrel.below⟩
  rcases he with rfl | rfl
  ·exact ⟨hrel.defers, v, v1, hR⟩
  ·exact ⟨hrel.defers, v, v1, hR⟩
end
end Go.AX
set_option linter.unusedSimpArgs false
set_option linter.unusedVariables false
namespace Go.AX
open Go Go.RowKit
/-- What is handed in holds no block of the call's own. -/
def atomB : AVal → Bool
 | .int _ _ | .bool _ | .str _ | .nil | .imm _ _ | .immp _ | .ints _ _ | .intp _ _ | .fn _ _ _ | .abs _ _ _ => true
 | _ => false
inductive ArgOk (H : List (Option Blk)) : AVal → AVal → Prop
 | atom (x : AVal) : atomB x = true → ArgOk H x x
 | nilI (k : IntKind) : ArgOk H .nil (.ints k [])
 | nilM (sz : Nat) : ArgOk H .nil (.imm sz [])
 | junk (x : AVal) : ArgOk H x .junk
 | fnOf (x : AVal) (sz n : Nat) (f : Nat → List AVal) : ArgOk H x (.imm sz (fnEs n f)) → ArgOk H x (.fn sz n f)
 | ownI (id n : Nat) (et : TypeId) (k : IntKind) (xs ys : List Int) : getB H id = some (.ints et k xs) → n ≤ xs.length → xs.take n = ys → ArgOk H (.own id n) (.ints k ys)
 | ownM (id n : Nat) (et : TypeId) (sz : Nat) (es fs : List (List AVal)) : getB H id = some (.gen et sz es) → n ≤ es.length → fs.length = n →
   (∀ (i : Nat) (e f : List AVal), es[i]? = some e → fs[i]? = some f → e.length = f.length) → (∀ (i : Nat) (e f : List AVal) (j : Nat) (x y : AVal), es[i]? = some e → fs[i]? = some f → e[j]? = some x → f[j]? = some y → ArgOk H x y) → ArgOk H (.own id n) (.imm sz fs)
 | rowI (id i n : Nat) (et : TypeId) (k : IntKind) (X : List (List Int)) (ys : List Int) : getB H id = some (.rows et k X) → i < X.length → n ≤ (X.getD i []).length → (X.getD i []).take n = ys → ArgOk H (.row id i n) (.ints k ys)
 | ownO (id n : Nat) (et : TypeId) (rid m : Nat) (f : Nat → Option Nat) (len : Nat → Nat) (y : Nat → AVal) : getB H id = some (.outs et rid m f len) → n ≤ m → (∀ i, i < n → ArgOk H (rowV rid (f i) (len i)) (y i)) → ArgOk H (.own id n) (.fn 1 n (fun i => [y i]))
 | ptrI (id i : Nat) (et : TypeId) (k : IntKind) (xs : List Int) (n : Int) : getB H id = some (.ints et k xs) → xs[i]? = some n → ArgOk H (.ptr id i 0) (.intp k n)
 | ptrM (id i : Nat) (et : TypeId) (sz : Nat) (es : List (List AVal)) (e f : List AVal) : getB H id = some (.gen et sz es) → es[i]? = some e → f.length = e.length →
   (∀ (j : Nat) (x y : AVal), e[j]? = some x → f[j]? = some y → ArgOk H x y) → ArgOk H (.ptr id i 0) (.immp f)
 | ptrD (id i j0 : Nat) (et : TypeId) (sz : Nat) (es : List (List AVal)) (e f : List AVal) : getB H id = some (.gen et sz es) → es[i]? = some e → j0 + f.length ≤ e.length →
   (∀ (j : Nat) (x y : AVal), e[j0 + j]? = some x → f[j]? = some y → ArgOk H x y) → ArgOk H (.ptr id i j0) (.immp f)
 | agg (l m : List AVal) : l.length = m.length → (∀ (i : Nat) (x y : AVal), l[i]? = some x → m[i]? = some y → ArgOk H x y) → ArgOk H (.agg l) (.agg m)
 | func (f : Nat) (l m : List AVal) : l.length = m.length → (∀ (i : Nat) (x y : AVal), l[i]? = some x → m[i]? = some y → ArgOk H x y) → ArgOk H (.func f l) (.func f m)
inductive ArgsOk (H : List (Option Blk)) : List AVal → List AVal → Prop
 | nil : ArgsOk H [] []
 | cons {x y : AVal} {l m : List AVal} : ArgOk H x y → ArgsOk H l m → ArgsOk H (x :: l) (y :: m)
theorem ArgsOk.get {H : List (Option Blk)} : ∀ {l m : List AVal}, ArgsOk H l m → l.length = m.length ∧ ∀ (i : Nat) (x y : AVal), l[i]? = some x → m[i]? = some y → ArgOk H x y
 | _, _, .nil => ⟨rfl, fun i x y h => by simp at h⟩
 | _, _, .cons (x := x) (y := y) h t => by
  obtain ⟨h1, h2⟩ := t.get
  refine ⟨by simp [h1], fun i u v hu hv => ?_⟩
  match i, hu, hv with
  | 0, hu, hv => simp at hu hv; subst hu hv; exact h
  | i + 1, hu, hv => exact h2 i u v (by simpa using hu) (by simpa using hv)
section
variable {P : Program} {T : Tab} {F : Fz} {φ : Phi} {w0 : World} {st : St} {a : Act} {w : World}
open Classical in
/-- The call's own blocks, frozen for a callee. -/
noncomputable def addOwn (F : Fz) (φ : Phi) (H : List (Option Blk)) (w : World) : Fz := fun g =>
 match F g with
 | some o => some o
 | none => if (∃ id b, H[id]? = some (some b) ∧ (φ id).occ g) then w.heap[g]? else none
theorem addOwn_le : FLe F (addOwn F φ st.h w) := fun b o h => by simp [addOwn, h]
theorem addOwn_agree {base : Nat} {H : List (Option Blk)} (h : RelH F φ base H w) : Agree (addOwn F φ H w) w := by
 refine ⟨?_, h.good.le fun b o h => by simp [addOwn, h]⟩
 intro b o hb
 unfold addOwn at hb
 split at hb
 ·rename_i o' ho; injection hb with hb; subst hb; exact h.agree _ _ ho
 ·split at hb
  ·exact hb
  ·cases hb
theorem addOwn_occ {base : Nat} {H : List (Option Blk)} (h : RelH F φ base H w) {id : Nat} {b : Blk} (hb : H[id]? = some (some b)) {g : Nat} (hφ : (φ id).occ g) : addOwn F φ H w g = w.heap[g]? := by
 unfold addOwn
 rw [((h.blk id b hb).occ hφ).2.1]
 simp only
 rw [if_pos ⟨id, b, hb, hφ⟩]
theorem addOwn_own {base : Nat} {H : List (Option Blk)} (h : RelH F φ base H w) {id : Nat} {b : Blk} (hb : H[id]? = some (some b)) {g c s : Nat} {t : TypeId} (hφ : φ id = .at g c s t) : addOwn F φ H w g = w.heap[g]? :=
 addOwn_occ h hb (by rw [hφ]; rfl)
theorem argOk_rep (h : RelH F φ w0.heap.size st.h w) {x y : AVal} (ha : ArgOk st.h x y) : ∀ {v : Value}, RepV F φ x v → RepV (addOwn F φ st.h w) φ0 y v := by
 have hle : FLe F (addOwn F φ st.h w) := addOwn_le
 have atom : ∀ {x : AVal} {v : Value}, atomB x = true → RepV F φ x v → RepV (addOwn F φ st.h w) φ0 x v := by
  intro x v hx hr
  cases x <;> simp only [atomB, Bool.false_eq_true] at hx
  case ints => cases hr with | ints _ _ _ hr => cases hr with | imm _ _ A n c u h1 h2 h3 h4 h5 h6 h7 =>
   exact .ints _ _ _ (RepV.le hle (RepV.imm (φ := φ0) _ _ A n c u h1 h2 h3 h4 h5 h6 h7) (PLe.refl _))
  case fn => cases hr with | fn _ _ _ _ hr => cases hr with | imm _ _ A n c u h1 h2 h3 h4 h5 h6 h7 =>
   exact .fn _ _ _ _ (RepV.le hle (RepV.imm (φ := φ0) _ _ A n c u h1 h2 h3 h4 h5 h6 h7) (PLe.refl _))
  case intp => cases hr with | intp _ _ _ hr => cases hr with | immp _ ad u h1 h2 => exact .intp _ _ _ (RepV.le hle (RepV.immp (φ := φ0) _ ad u h1 h2) (PLe.refl _))
  case imm => cases hr with | imm _ _ A n c u h1 h2 h3 h4 h5 h6 h7 => exact RepV.le hle (RepV.imm (φ := φ0) _ _ A n c u h1 h2 h3 h4 h5 h6 h7) (PLe.refl _)
  case immp => cases hr with | immp _ ad u h1 h2 => exact RepV.le hle (RepV.immp (φ := φ0) _ ad u h1 h2) (PLe.refl _)
  all_goals (cases hr; constructor <;> assumption)
 have cellOwn : ∀ {id : Nat} {b : Blk} {g c s : Nat} {t : TypeId} {cur : Array Value} {fr : Nat × Nat}, st.h[id]? = some (some b) → φ id = .at g c s t → w.heap[g]? = some (.cells cur b.et fr) → ∀ m, cellF (addOwn F φ st.h w) ⟨g, m, none⟩ = cur[m]? := by
  intro id b g c s t cur fr hb hφ hw m
  unfold cellF
  rw [addOwn_own h hb hφ, hw]
  rfl
 -- a block's rows, as a list that nobody writes
 have rows : ∀ {id n : Nat} {b : Blk} {fs : List (List AVal)} {v : Value}, getB st.h id = some b → n ≤ b.es.length → fs.length = n → (∀ (i : Nat) (e f : List AVal), b.es[i]? = some e → fs[i]? = some f → e.length = f.length) →
   (∀ (i : Nat) (e f : List AVal) (j : Nat) (x y : AVal), b.es[i]? = some e → fs[i]? = some f → e[j]? = some x → f[j]? = some y → ∀ {v : Value}, RepV F φ x v → RepV (addOwn F φ st.h w) φ0 y v) → RepV F φ (.own id n) v → RepV (addOwn F φ st.h w) φ0 (.imm b.sz fs) v := by
  intro id n b fs v hb hn hl hlen hrow hr
  have hbH := getB_some hb
  cases hr with
  | ownNil _ q =>
   have hfs : fs = [] := List.eq_nil_of_length_eq_zero hl
   subst hfs
   exact .imm _ _ none 0 0 (fun _ _ => undef) rfl (Nat.le_refl _) (Nat.zero_le _) (fun i e he => by simp at he) (fun h => absurd h (by omega)) (fun ad i e j x _ he => by simp at he) (fun i e j x he => by simp at he)
  | own _ _ g cap sz et q1 q2 q3 =>
   rcases (h.blk id b hbH).atC q1 with ⟨p, _⟩ | ⟨g', cap', cur, p, p1, p2, p3, p4, p5, p6, p7⟩
   ·rw [q1] at p; cases p
   rw [q1] at p
   injection p with e1 e2 e3 e4
   subst e1 e2 e3 e4
   have hcell := cellOwn hbH q1 p3
   have both : ∀ (i : Nat) (f : List AVal), fs[i]? = some f → ∃ e, b.es[i]? = some e ∧ e.length = f.length := by
    intro i f hf
    have hi : i < fs.length := by
     rcases Nat.lt_or_ge i fs.length with c | c
     ·exact c
     ·rw [List.getElem?_eq_none c] at hf; cases hf
    have he := List.getElem?_eq_getElem (show i < b.es.length by omega)
    exact ⟨_, he, hlen i _ f he hf⟩
   have cell : ∀ (i : Nat) (f : List AVal) (j : Nat) (y : AVal), fs[i]? = some f → f[j]? = some y → ∃ u, cur[i * b.sz + j]? = some u ∧ RepV (addOwn F φ st.h w) φ0 y u ∧ u.oneCell' = true := by
    intro i f j y hf hy
    obtain ⟨e, he, hel⟩ := both i f hf
    have hj : j < f.length := by
     rcases Nat.lt_or_ge j f.length with c | c
     ·exact c
     ·rw [List.getElem?_eq_none c] at hy; cases hy
    have hx := List.getElem?_eq_getElem (show j < e.length by omega)
    obtain ⟨u, u1, u2, u3⟩ := (p7 i e he).2 j _ hx
    exact ⟨u, u1, hrow i e f j _ y he hf hx hy u2, u3⟩
   refine .imm _ _ (some ⟨g, 0, none⟩) n cap (fun i j => (cur[i * b.sz + j]?).getD undef) hl.symm q2 p5 (fun i f hf => ?_) (fun _ hn => nomatch hn) (fun ad i f j y hA hf hy => ?_) (fun i f j y hf hy => ?_)
   ·obtain ⟨e, he, hel⟩ := both i f hf
    rw [← hel]; exact (p7 i e he).1
   ·injection hA with hA; subst hA
    obtain ⟨u, u1, u2, u3⟩ := cell i f j y hf hy
    rw [Addr.add_lit, Nat.zero_add, hcell, u1]
    exact ⟨rfl, u3⟩
   ·obtain ⟨u, u1, u2, u3⟩ := cell i f j y hf hy
    rw [u1]; exact u2
 have intRow : ∀ {k : IntKind} {xs : List Int} {i : Nat} {e : List AVal}, (intEs k xs)[i]? = some e → ∃ n, xs[i]? = some n ∧ e = [.int k n] := by
  intro k xs i e he
  simp only [intEs, List.getElem?_map, Option.map_eq_some_iff] at he
  obtain ⟨n, hn, rfl⟩ := he
  exact ⟨n, hn, rfl⟩
 induction ha with
 | atom x hx => exact fun hr => atom hx hr
 | nilI k =>
  intro v hr; cases hr
  exact .ints _ _ _ (.imm _ _ none 0 0 (fun _ _ => undef) rfl (Nat.le_refl _) (Nat.zero_le _) (fun i e he => by simp [intEs] at he) (fun h => absurd h (by omega)) (fun ad i e j x _ he => by simp [intEs] at he) (fun i e j x he => by simp [intEs] at he))
 | nilM sz =>
  intro v hr; cases hr
  exact .imm _ _ none 0 0 (fun _ _ => undef) rfl (Nat.le_refl _) (Nat.zero_le _) (fun i e he => by simp at he) (fun h => absurd h (by omega)) (fun ad i e j x _ he => by simp at he) (fun i e j x he => by simp at he)
 | junk x => exact fun _ => .junk _
 | fnOf x sz n f _ ih => exact fun hr => .fn _ _ _ _ (ih hr)
 | ownI id n et k xs ys hb hn hys =>
  intro v hr
  subst hys
  refine .ints _ _ _ (rows (b := .ints et k xs) (fs := intEs k (xs.take n)) hb (by simpa [Blk.es, intEs] using hn) (by simp [intEs]; omega) (fun i e f he hf => ?_) (fun i e f j x y he hf hx hy => ?_) hr)
  ·obtain ⟨_, _, rfl⟩ := intRow he; obtain ⟨_, _, rfl⟩ := intRow hf; rfl
  ·intro v hv
   obtain ⟨p, hp, rfl⟩ := intRow he
   obtain ⟨q, hq, rfl⟩ := intRow hf
   rw [List.getElem?_take] at hq
   split at hq
   ·rw [hp] at hq; injection hq with hq; subst hq
    rw [hx] at hy; injection hy with hy; subst hy
    match j, hx with
    | 0, hx => simp at hx; subst hx; exact atom rfl hv
   ·cases hq
 | ownM id n et sz es fs hb hn hl hlen _ ih => exact fun hr => rows (b := .gen et sz es) hb hn hl hlen (fun i e f j x y he hf hx hy {v} hv => ih i e f j x y he hf hx hy hv) hr
 | rowI id i n et k X ys hb hi hn hys =>
  intro v hr
  subst hys
  cases hr with
  | rowNil => exact .ints _ _ _ (.imm _ _ none 0 0 (fun _ _ => undef) (by simp [intEs]) (Nat.le_refl _) (Nat.zero_le _) (fun i e he => by simp [intEs] at he) (fun h => absurd h (by omega)) (fun ad i e j x _ he => by simp [intEs] at he) (fun i e j x he => by simp [intEs] at he))
  | row _ _ _ g c gs et' q1 q2 q3 q4 => ?_
  have hbH := getB_some hb
  have hX : BlkX F φ w0.heap.size w id (.rows et k X) := by
   rcases h.blk id _ hbH with ⟨q, _⟩ | ⟨_, _, _, q, _⟩ | q
   ·rw [q1] at q; cases q
   ·rw [q1] at q; cases q
   ·exact q
  obtain ⟨gs', p, p1, p2, _, p3⟩ := hX
  rw [q1] at p
  injection p with e1 e2
  subst e1 e2
  have hxi : X[i]? = some (X.getD i []) := by rw [List.getD_eq_getElem?_getD, List.getElem?_eq_getElem hi]; rfl
  obtain ⟨z1, z2, z3, z4, cur, z5, z6, z7⟩ := p3 i _ _ q2 hxi
  have hocc : (φ id).occ g := by rw [q1]; exact ⟨i, c, q2⟩
  have hcell : ∀ m, cellF (addOwn F φ st.h w) ⟨g, m, none⟩ = cur[m]? := fun m => by
   unfold cellF
   rw [addOwn_occ h hbH hocc, z5]; rfl
  have row : ∀ (j : Nat) (e : List AVal), (intEs k ((X.getD i []).take n))[j]? = some e → ∃ v, (X.getD i [])[j]? = some v ∧ e = [.int k v] := fun j e he => by
   obtain ⟨v, hv, rfl⟩ := intRow he
   rw [List.getElem?_take] at hv
   split at hv
   ·exact ⟨v, hv, rfl⟩
   ·cases hv
  refine .ints _ _ _ (.imm _ _ (some ⟨g, 0, none⟩) n c (fun j _ => (cur[j]?).getD undef) (by simp only [intEs, List.length_map, List.length_take]; omega) q3 q4 (fun j e he => ?_) (fun _ hn => nomatch hn) (fun ad j e l x hA he hx => ?_) (fun j e l x he hx => ?_))
  ·obtain ⟨v, _, rfl⟩ := row j e he; rfl
  ·injection hA with hA; subst hA
   obtain ⟨v, hv, rfl⟩ := row j e he
   match l, hx with
   | 0, hx =>
    rw [Addr.add_lit, Nat.zero_add, hcell, Nat.mul_one, Nat.add_zero, (z7 j v hv).1]
    exact ⟨rfl, rfl⟩
  ·obtain ⟨v, hv, rfl⟩ := row j e he
   match l, hx with
   | 0, hx =>
    simp at hx; subst hx
    rw [(z7 j v hv).1]
    exact .int _ _ (z7 j v hv).2.1 (z7 j v hv).2.2
 | ownO id n et rid m f len yy hb hn hg ih =>
  intro v hr
  refine .fn _ _ _ _ (rows (b := .outs et rid m f len) (fs := fnEs n (fun i => [yy i])) hb (by simpa [Blk.es, fnEs] using hn) (by simp [fnEs]) (fun i e f' he hf => ?_) (fun i e f' j x y he hf hx hy => ?_) hr)
  ·simp only [Blk.es, fnEs, List.getElem?_map, Option.map_eq_some_iff] at he hf
   obtain ⟨i1, h1, rfl⟩ := he
   obtain ⟨i2, h2, rfl⟩ := hf
   have e2 := List.getElem?_eq_some_iff.1 h2
   obtain ⟨e3, e4⟩ := e2
   simp at e3 e4
   subst e4
   rfl
  ·intro v hv
   simp only [Blk.es, fnEs, List.getElem?_map, Option.map_eq_some_iff] at he hf
   obtain ⟨i1, h1, rfl⟩ := he
   obtain ⟨i2, h2, rfl⟩ := hf
   obtain ⟨e3, e4⟩ := List.getElem?_eq_some_iff.1 h2
   obtain ⟨e5, e6⟩ := List.getElem?_eq_some_iff.1 h1
   simp at e3 e4 e5 e6
   subst e4
   subst e6
   match j, hx, hy with
   | 0, hx, hy =>
    simp only [outE, List.getElem?_cons_zero, Option.some.injEq] at hx hy
    subst hy
    exact ih i e3 (by rw [show rowV rid (f i) (len i) = x from hx]; exact hv)
 | ptrI id i et k xs n hb hn =>
  intro v hr
  obtain ⟨B, hB⟩ : ∃ B, B = Blk.ints et k xs := ⟨_, rfl⟩
  rw [← hB] at hb
  cases hr with | ptr _ _ _ g cap sz et' q1 => ?_
  have hbH := getB_some hb
  rcases (h.blk id _ hbH).atC q1 with ⟨p, _⟩ | ⟨g', cap', cur, p, p1, p2, p3, p4, p5, p6, p7⟩
  ·rw [q1] at p; cases p
  rw [q1] at p
  injection p with e1 e2 e3 e4
  subst e1 e2 e3 e4
  have hcell := cellOwn hbH q1 p3
  have he : B.es[i]? = some [.int k n] := by rw [hB]; simp [Blk.es, intEs, hn]
  obtain ⟨u, u1, u2, u3⟩ := (p7 i _ he).2 0 _ rfl
  refine .intp _ _ _ (.immp _ _ (fun _ => u) (fun j x hx => ?_) (fun j x hx => ?_))
  ·match j, hx with
   | 0, hx => rw [Addr.add_zero', hcell]; exact ⟨u1, u3⟩
  ·match j, hx with
   | 0, hx => simp at hx; subst hx; exact atom rfl u2
 | ptrM id i et sz es e f hb he hl _ ih =>
  intro v hr
  obtain ⟨B, hB⟩ : ∃ B, B = Blk.gen et sz es := ⟨_, rfl⟩
  rw [← hB] at hb
  have he : B.es[i]? = some e := by rw [hB]; exact he
  cases hr with | ptr _ _ _ g cap sz' et' q1 => ?_
  have hbH := getB_some hb
  rcases (h.blk id _ hbH).atC q1 with ⟨p, _⟩ | ⟨g', cap', cur, p, p1, p2, p3, p4, p5, p6, p7⟩
  ·rw [q1] at p; cases p
  rw [q1] at p
  injection p with e1 e2 e3 e4
  subst e1 e2 e3 e4
  have hcell := cellOwn hbH q1 p3
  have cell : ∀ (j : Nat) (y : AVal), f[j]? = some y → ∃ u, cur[i * B.sz + j]? = some u ∧ RepV (addOwn F φ st.h w) φ0 y u ∧ u.oneCell' = true := by
   intro j y hy
   have hj : j < f.length := by
    rcases Nat.lt_or_ge j f.length with c | c
    ·exact c
    ·rw [List.getElem?_eq_none c] at hy; cases hy
   have hx := List.getElem?_eq_getElem (show j < e.length by omega)
   obtain ⟨u, u1, u2, u3⟩ := (p7 i e he).2 j _ hx
   exact ⟨u, u1, ih j _ y hx hy u2, u3⟩
  refine .immp _ _ (fun j => (cur[i * B.sz + j]?).getD undef) (fun j y hy => ?_) (fun j y hy => ?_)
  ·obtain ⟨u, u1, u2, u3⟩ := cell j y hy
   rw [Addr.add_lit, hcell, Nat.add_zero, u1]; exact ⟨rfl, u3⟩
  ·obtain ⟨u, u1, u2, u3⟩ := cell j y hy
   rw [u1]; exact u2
 | ptrD id i j0 et sz es e f hb he hl _ ih =>
  intro v hr
  obtain ⟨B, hB⟩ : ∃ B, B = Blk.gen et sz es := ⟨_, rfl⟩
  rw [← hB] at hb
  have he : B.es[i]? = some e := by rw [hB]; exact he
  cases hr with | ptr _ _ _ g cap sz' et' q1 => ?_
  have hbH := getB_some hb
  rcases (h.blk id _ hbH).atC q1 with ⟨p, _⟩ | ⟨g', cap', cur, p, p1, p2, p3, p4, p5, p6, p7⟩
  ·rw [q1] at p; cases p
  rw [q1] at p
  injection p with e1 e2 e3 e4
  subst e1 e2 e3 e4
  have hcell := cellOwn hbH q1 p3
  have cell : ∀ (j : Nat) (y : AVal), f[j]? = some y → ∃ u, cur[i * B.sz + (j0 + j)]? = some u ∧ RepV (addOwn F φ st.h w) φ0 y u ∧ u.oneCell' = true := by
   intro j y hy
   have hj : j < f.length := by
    rcases Nat.lt_or_ge j f.length with c | c
    ·exact c
    ·rw [List.getElem?_eq_none c] at hy; cases hy
   have hx := List.getElem?_eq_getElem (show j0 + j < e.length by omega)
   obtain ⟨u, u1, u2, u3⟩ := (p7 i e he).2 (j0 + j) _ hx
   exact ⟨u, u1, ih j _ y hx hy u2, u3⟩
  refine .immp _ _ (fun j => (cur[i * B.sz + (j0 + j)]?).getD undef) (fun j y hy => ?_) (fun j y hy => ?_)
  ·obtain ⟨u, u1, u2, u3⟩ := cell j y hy
   rw [Addr.add_lit, hcell, Nat.add_assoc, u1]; exact ⟨rfl, u3⟩
  ·obtain ⟨u, u1, u2, u3⟩ := cell j y hy
   rw [u1]; exact u2
 | agg l m hl _ ih =>
  intro v hr
  cases hr with | agg _ vs hs h1 h2 => ?_
  refine .agg _ _ (by omega) h1 fun i y v hy hv => ?_
  have hi : i < l.length := by
   rw [hl]
   rcases Nat.lt_or_ge i m.length with c | c
   ·exact c
   ·rw [List.getElem?_eq_none c] at hy; cases hy
  have hx := List.getElem?_eq_getElem hi
  exact ih i _ y hx hy (h2 i _ v hx hv)
 | func f l m hl _ ih =>
  intro v hr
  cases hr with | func _ _ vs hs h2 => ?_
  refine .func _ _ _ (by omega) fun i y v hy hv => ?_
  have hi : i < l.length := by
   rw [hl]
   rcases Nat.lt_or_ge i m.length with c | c
   ·exact c
   ·rw [List.getElem?_eq_none c] at hy; cases hy
  have hx := List.getElem?_eq_getElem hi
  exact ih i _ y hx hy (h2 i _ v hx hv)
/-! ### what comes back, under names of the caller's -/
def sh0 (k : Nat) : AVal → AVal
 | .own id n => .own (id + k) n
 | .ownN id n => .ownN (id + k) n
 | .ptr id i j => .ptr (id + k) i j
 | .mp id => .mp (id + k)
 | .row id i n => .row (id + k) i n
 | .rowp id i j => .rowp (id + k) i j
 | x => x
def sh1 (k : Nat) : AVal → AVal
 | .agg l => .agg (l.map (sh0 k))
 | x => sh0 k x
def sh (k : Nat) : AVal → AVal
 | .tup l => .tup (l.map (sh1 k))
 | x => sh1 k x
def shB (k : Nat) : Blk → Blk
 | .ints et q xs => .ints et q xs
 | .gen et sz es => .gen et sz (es.map fun e => e.map (sh0 k))
 | .pin _ _ => .gen 0 0 []
 | .xo Pd => .xo Pd
 | .rows et q X => .rows et q X
 | .outs et rid n f len => .outs et (rid + k) n f len
/-- Nothing of what was handed in. -/
def nI0 : AVal → Bool
 | .junk | .int _ _ | .bool _ | .str _ | .nil | .own _ _ | .ownN _ _ | .ptr _ _ _ | .mp _ | .row _ _ _ | .rowp _ _ _ => true
 | _ => false
def nI1 : AVal → Bool
 | .agg l => l.all nI0
 | x => nI0 x
def nI : AVal → Bool
 | .tup l => l.all nI1
 | x => nI1 x
def nIB : Blk → Bool
 | .ints _ _ _ => true
 | .gen _ _ es => es.all fun e => e.all nI0
 | .pin _ _ => false
 | .xo _ | .rows _ _ _ | .outs _ _ _ _ _ => true
def phiS (φ φ' : Phi) (k : Nat) : Phi := fun id => if id < k then φ id else φ' (id - k)
theorem sh0_rep {F' : Fz} {φ' : Phi} {k : Nat} {x : AVal} {v : Value} (hx : nI0 x = true) (h : RepV F' φ' x v) : RepV F (phiS φ φ' k) (sh0 k x) v := by
 cases x <;> simp only [nI0, Bool.false_eq_true] at hx
 case own id n =>
  simp only [sh0]
  cases h with
  | own _ _ g cap sz et q1 q2 q3 => exact .own _ _ g cap sz et (by unfold phiS; rw [if_neg (by omega), Nat.add_sub_cancel]; exact q1) q2 q3
  | ownNil _ q => exact .ownNil _ (by unfold phiS; rw [if_neg (by omega), Nat.add_sub_cancel]; exact q)
 case ownN id n =>
  simp only [sh0]
  cases h with
  | ownN _ _ g cap sz et q1 q2 q3 => exact .ownN _ _ g cap sz et (by unfold phiS; rw [if_neg (by omega), Nat.add_sub_cancel]; exact q1) q2 q3
 case ptr id i j =>
  simp only [sh0]
  cases h with | ptr _ _ _ g cap sz et q1 => exact .ptr _ _ _ g cap sz et (by unfold phiS; rw [if_neg (by omega), Nat.add_sub_cancel]; exact q1)
 case mp id =>
  simp only [sh0]
  cases h with | mp _ g q1 => exact .mp _ g (by unfold phiS; rw [if_neg (by omega), Nat.add_sub_cancel]; exact q1)
 case row id i n =>
  simp only [sh0]
  cases h with
  | row _ _ _ g c gs et q1 q2 q3 q4 => exact .row _ _ _ g c gs et (by unfold phiS; rw [if_neg (by omega), Nat.add_sub_cancel]; exact q1) q2 q3 q4
  | rowNil _ _ gs et q1 q2 => exact .rowNil _ _ gs et (by unfold phiS; rw [if_neg (by omega), Nat.add_sub_cancel]; exact q1) q2
 case rowp id i j =>
  simp only [sh0]
  cases h with | rowp _ _ _ g c gs et q1 q2 => exact .rowp _ _ _ g c gs et (by unfold phiS; rw [if_neg (by omega), Nat.add_sub_cancel]; exact q1) q2
 all_goals (simp only [sh0]; cases h; constructor <;> assumption)
theorem all_get {p : AVal → Bool} {l : List AVal} (h : l.all p = true) {i : Nat} {x : AVal} (hx : l[i]? = some x) : p x = true := List.all_eq_true.1 h x (List.mem_of_getElem? hx)
theorem sh1_rep {F' : Fz} {φ' : Phi} {k : Nat} {x : AVal} {v : Value} (hx : nI1 x = true) (h : RepV F' φ' x v) : RepV F (phiS φ φ' k) (sh1 k x) v := by
 cases x
 case agg l =>
  cases h with | agg _ vs hl h1 h2 => ?_
  refine .agg _ vs (by simpa using hl) h1 fun i y v hy hv => ?_
  rw [List.getElem?_map] at hy
  cases hq : l[i]? with
  | none => rw [hq] at hy; cases hy
  | some q =>
   rw [hq] at hy; simp at hy; subst hy
   exact sh0_rep (all_get hx hq) (h2 i q v hq hv)
 all_goals (refine sh0_rep ?_ h; exact hx)
theorem sh_rep {F' : Fz} {φ' : Phi} {k : Nat} {x : AVal} {v : Value} (hx : nI x = true) (h : RepV F' φ' x v) : RepV F (phiS φ φ' k) (sh k x) v := by
 cases x
 case tup l =>
  cases h with | tup _ vs hl h2 => ?_
  refine .tup _ vs (by simpa using hl) fun i y v hy hv => ?_
  rw [List.getElem?_map] at hy
  cases hq : l[i]? with
  | none => rw [hq] at hy; cases hy
  | some q =>
   rw [hq] at hy; simp at hy; subst hy
   exact sh1_rep (all_get hx hq) (h2 i q v hq hv)
 all_goals (refine sh1_rep ?_ h; exact hx)
theorem shB_es (k : Nat) (b : Blk) : (shB k b).es = b.es.map (fun e => e.map (sh0 k)) ∧ (shB k b).sz = b.sz ∧ (shB k b).et = b.et := by
 cases b with
 | outs et rid m f len =>
  refine ⟨?_, rfl, rfl⟩
  simp only [shB, Blk.es, fnEs, List.map_map]
  refine List.map_congr_left fun i _ => ?_
  simp only [outE, Function.comp]
  cases f i <;> rfl
 | _ => simp [shB, Blk.es, Blk.sz, Blk.et, intEs, sh0]
/-- The caller's state behind the call. -/
theorem RelH.back {base : Nat} {H : List (Option Blk)} {H' : List Blk} (h : RelH F φ base H w) {F' : Fz} {φ' : Phi} {w' : World} (h' : RelH F' φ' w.heap.size (H'.map some) w') (hb : Below w.heap.size w w') (hbase : base ≤ w.heap.size) (hn : ∀ b ∈ H', nIB b = true) :
  RelH F (phiS φ φ' H.length) base (H ++ H'.map fun b => some (shB H.length b)) w' ∧ PLe φ (phiS φ φ' H.length) := by
 have hle : PLe φ (phiS φ φ' H.length) := fun id hu => by
  unfold phiS
  rcases Nat.lt_or_ge id H.length with q | q
  ·rw [if_pos q]
  ·exact absurd (h.unused id q) hu
 have hF : ∀ g, w.heap.size ≤ g → F g = none := fun g hg => by
  cases hq : F g with
  | none => rfl
  | some o => have := h.lt hq; omega
 have new : ∀ (id : Nat) (b : Blk), (H ++ H'.map fun b => some (shB H.length b))[id]? = some (some b) → (id < H.length ∧ H[id]? = some (some b)) ∨ (H.length ≤ id ∧ ∃ b', (H'.map some)[id - H.length]? = some (some b') ∧ b = shB H.length b' ∧ b' ∈ H') := by
  intro id b hb
  rw [List.getElem?_append] at hb
  split at hb
  ·rename_i q; exact .inl ⟨q, hb⟩
  ·rename_i q
   rw [List.getElem?_map] at hb
   cases hq : H'[id - H.length]? with
   | none => rw [hq] at hb; cases hb
   | some b' =>
    rw [hq] at hb; simp at hb; subst hb
    exact .inr ⟨by omega, b', by rw [List.getElem?_map, hq]; rfl, rfl, List.mem_of_getElem? hq⟩
 refine ⟨⟨fun b o hbo => (hb.block b (h.lt hbo)).trans (h.agree b o hbo), fun id hid => ?_, fun id b hbk => ?_, fun i j bi bj g hi hj h1 h2 => ?_, h.good, fun j i l hj => by
  have hlt : ∀ {m l}, φ m = l → l ≠ .unused → m < H.length := fun {m l} e ne => by
   rcases Nat.lt_or_ge m H.length with c | c
   ·exact c
   ·rw [h.unused m c] at e; exact absurd e.symm ne
  rw [List.getElem?_append] at hj
  split at hj
  ·have := h.pins j i l hj
   exact ⟨by unfold phiS; rw [if_pos (hlt this.1 this.2)]; exact this.1, this.2⟩
  ·rw [List.getElem?_map] at hj
   cases hq : H'[j - H.length]? with
   | none => rw [hq] at hj; cases hj
   | some b' => rw [hq] at hj; simp only [Option.map_some, Option.some.injEq] at hj; cases b' <;> simp [shB] at hj⟩, hle⟩
 ·simp only [List.length_append, List.length_map] at hid
  unfold phiS
  rw [if_neg (by omega)]
  exact h'.unused _ (by simp; omega)
 ·rcases new id b hbk with ⟨q1, q2⟩ | ⟨q1, b', q2, rfl, q3⟩
  ·exact (h.blk id b q2).le (FLe.refl F) hle (fun _ _ hg _ => hg) fun x hx => hb.block x (h.occ_lt q2 hx)
  ·obtain ⟨e1, e2, e3⟩ := shB_es H.length b'
   have hph : phiS φ φ' H.length id = φ' (id - H.length) := by unfold phiS; rw [if_neg (by omega)]
   rcases h'.blk _ b' q2 with ⟨p1, p2⟩ | ⟨g, cap, cur, p1, p2, p3, p4, p5, p6, p7, p8⟩ | hX
   rotate_left 2
   ·refine .inr (.inr ?_)
    have hx : BlkX F (phiS φ φ' H.length) base w' id b' := hX.le hph (fun x hx => ⟨by have := (hX.occ hx).1; omega, hF x (hX.occ hx).1⟩) fun x _ => rfl
    cases b' <;> first | exact hx | exact False.elim hX
   ·exact .inl ⟨by rw [hph]; exact p1, by rw [e1, p2]; rfl⟩
   ·refine .inr (.inl ⟨g, cap, cur, by rw [hph, e2, e3]; exact p1, by omega, hF g p2, by rw [e3]; exact p4, by rw [e1]; simpa using p5, p6, by rw [e2]; exact p7, fun i e he => ?_⟩)
    rw [e1, List.getElem?_map] at he
    cases hq : b'.es[i]? with
    | none => rw [hq] at he; cases he
    | some e' =>
     rw [hq] at he; simp at he; subst he
     refine ⟨by rw [e2]; simpa using (p8 i e' hq).1, fun j x hx => ?_⟩
     rw [List.getElem?_map] at hx
     cases hq2 : e'[j]? with
     | none => rw [hq2] at hx; cases hx
     | some y =>
      rw [hq2] at hx; simp at hx; subst hx
      obtain ⟨u, u1, u2, u3⟩ := (p8 i e' hq).2 j y hq2
      have hnI : nI0 y = true := by
       have := hn b' q3
       cases b' with
       | ints et k xs =>
        simp only [Blk.es, intEs, List.getElem?_map, Option.map_eq_some_iff] at hq
        obtain ⟨n, _, rfl⟩ := hq
        match j, hq2 with
        | 0, hq2 => simp at hq2; subst hq2; rfl
       | pin _ _ => simp [nIB] at this
       | xo _ =>
        match i, hq with
        | 0, hq => simp [Blk.es] at hq; subst hq; simp at hq2
       | rows _ _ _ =>
        match i, hq with
        | 0, hq => simp [Blk.es] at hq; subst hq; simp at hq2
       | outs et rid n f len =>
        simp only [Blk.es, fnEs, List.getElem?_map, Option.map_eq_some_iff] at hq
        obtain ⟨m, _, rfl⟩ := hq
        match j, hq2 with
        | 0, hq2 =>
         simp only [outE, List.getElem?_cons_zero, Option.some.injEq] at hq2
         subst hq2
         split <;> rfl
       | gen et sz es =>
        have h1 := List.all_eq_true.1 this e' (List.mem_of_getElem? hq)
        exact all_get h1 hq2
      exact ⟨u, by rw [e2]; exact u1, sh0_rep hnI u2, u3⟩
 ·rcases new i bi hi with ⟨q1, q2⟩ | ⟨q1, b1, q2, _, _⟩ <;> rcases new j bj hj with ⟨r1, r2⟩ | ⟨r1, b2, r2, _, _⟩
  ·unfold phiS at h1 h2; rw [if_pos q1] at h1; rw [if_pos r1] at h2; exact h.sep i j _ _ g q2 r2 h1 h2
  ·unfold phiS at h1 h2; rw [if_pos q1] at h1; rw [if_neg (by omega)] at h2
   have a1 := h.occ_lt q2 h1
   have a2 := ((h'.blk _ b2 r2).occ h2).1
   omega
  ·unfold phiS at h1 h2; rw [if_neg (by omega)] at h1; rw [if_pos r1] at h2
   have a1 := h.occ_lt r2 h2
   have a2 := ((h'.blk _ b1 q2).occ h1).1
   omega
  ·unfold phiS at h1 h2; rw [if_neg (by omega)] at h1; rw [if_neg (by omega)] at h2
   have := h'.sep _ _ b1 b2 g q2 r2 h1 h2
   omega
theorem AWPL_call {all : Array Oper} {Q : Exit → St → Prop} {rest : List Oper} {o : Oper} {fo : Operand} {args : Array Operand} {tys : Array TypeId} {d f : Nat} {caps ys : List AVal} {r : AVal} {H : List Blk}
  (hop : o.op = .call ⟨.value fo, args, tys⟩) (hdst : o.dst = some d) (hpc : pcOf all st.s o.guard = (true, true)) (hf : opd st.s fo = .func f caps) (hcall : ∀ args w, (callFunc f args).run P w = .ok (.enter f args) w)
  (hP : Pure P f ys r H) (hargs : ArgsOk st.h ((args.toList.map fun x => sv (opd st.s x)) ++ caps) ys) (hsc : (args.toList.all fun x => sc true (opd st.s x)) = true) (hd : d < st.n) (hr : nI r = true) (hH : H.all nIB = true)
  (h : AWPL P w0 all Q rest { st with s := putL st.s d (sh st.h.length r), h := st.h ++ H.map fun b => some (shB st.h.length b) }) : AWPL P w0 all Q (o :: rest) st := by
 intro F φ a w hrel
 have hwant : Region.wanted o (yielded all a.tmps) = true := by rw [pc_wanted hrel (by rw [hpc]), hpc]
 refine wpList_step fun K hK => ?_
 rw [if_pos hwant]
 have hfr := opd_rep hrel fo
 rw [hf] at hfr
 obtain ⟨cv, hcv, hcl, hcr⟩ : ∃ cv : Array Value, a.eval fo = .func (.func f) #[] cv ∧ caps.length = cv.size ∧ ∀ (i : Nat) (x : AVal) (v : Value), caps[i]? = some x → cv[i]? = some v → RepV F φ x v := by
  generalize a.eval fo = u at hfr
  cases hfr with | func _ _ vs h1 h2 => exact ⟨vs, rfl, h1, h2⟩
 have hrun : (execOp a.eval o).run P w = .ok (.enter f (args.map a.eval ++ cv)) w := by
  simp only [execOp, hop, resolve, hcv, Deferred.ofValue, Sem.run_bind, Sem.run_pure, Result.andThen_ok, invoke, Array.empty_append, hcall]
 unfold Oper.wp
 rw [hrun]
 obtain ⟨g1, g2⟩ := hargs.get
 have hlen : ys.length = (args.map a.eval ++ cv).size := by
  rw [← g1]; simp [hcl]
 have hc := hP w (addOwn F φ st.h w) (args.map a.eval ++ cv) (addOwn_agree hrel.heap) hlen (fun i y v hy hv => by
  have hi : i < ((args.toList.map fun x => sv (opd st.s x)) ++ caps).length := by
   rw [g1]
   rcases Nat.lt_or_ge i ys.length with c | c
   ·exact c
   ·rw [List.getElem?_eq_none c] at hy; cases hy
  have hx := List.getElem?_eq_getElem hi
  refine argOk_rep hrel.heap (g2 i _ y hx hy) ?_
  rw [List.getElem?_append] at hx
  rw [Array.getElem?_append] at hv
  simp only [List.length_map, Array.length_toList] at hx
  simp only [Array.size_map] at hv
  split at hx
  ·rename_i hlt
   rw [if_pos hlt] at hv
   rw [List.getElem?_map, Array.getElem?_toList] at hx
   rw [Array.getElem?_map] at hv
   cases hq : args[i]? with
   | none => rw [hq] at hv; cases hv
   | some q =>
    rw [hq] at hx hv
    simp only [Option.map_some, Option.some.injEq] at hx hv
    rw [← hx, ← hv]
    exact ev_rep hrel (List.all_eq_true.1 hsc q (Array.mem_toList_iff.2 (Array.mem_of_getElem? hq)))
  ·rename_i hge
   rw [if_neg hge] at hv
   exact hcr _ _ v hx hv)
 refine hc.mono fun e w' ⟨v, F', φ', he, hF, hH', hv, hb⟩ => ?_
 subst he
 refine hK _ _ ?_
 obtain ⟨k1, k2⟩ := hrel.heap.back hH' hb hrel.below.size (List.all_eq_true.1 hH)
 have := Rel.put (st := { st with h := st.h ++ H.map fun b => some (shB st.h.length b) }) (d := d) (x := sh st.h.length r) (v := v) ⟨k1, hrel.size, fun i => (hrel.slots i).le (FLe.refl F) k2, hrel.defers, hrel.below.trans (hb.mono hrel.below.size)⟩ hd (sh_rep hr hv)
 rw [hdst]
 exact h F _ _ w' this
theorem AWPL_skip {all : Array Oper} {Q : Exit → St → Prop} {rest : List Oper} {o : Oper} {d : Nat} (hdst : o.dst = some d) (hpc : pcOf all st.s o.guard = (true, false)) (hd : d < st.n)
  (h : AWPL P w0 all Q rest { st with s := putL st.s d (.opt false .junk) }) : AWPL P w0 all Q (o :: rest) st := by
 intro F φ a w hrel
 have hwant : Region.wanted o (yielded all a.tmps) = false := by rw [pc_wanted hrel (by rw [hpc]), hpc]
 refine wpList_step fun K hK => ?_
 rw [if_neg (by simp [hwant]), hdst]
 exact hK _ _ (h F φ _ w (hrel.put hd (.opt _ _ _ (fun h => nomatch h) fun _ => rfl)))
end
end Go.AX
set_option linter.unusedSimpArgs false
set_option linter.unusedVariables false
namespace Go.AX
open Go Go.RowKit
theorem runL_nil (T : Tab) (all : Array Oper) (st : St) : runL T all [] st = (true, st) := rfl
theorem runL_cons (T : Tab) (all : Array Oper) (o : Oper) (r : List Oper) (st : St) : runL T all (o :: r) st = match stepA T all o st with | (c, s1) => match runL T all r s1 with | (c2, s2) => (c && c2, s2) := rfl
theorem runP_nil (T : Tab) (all : Array Oper) (st : St) : runP T all [] st = (true, st) := rfl
theorem runP_cons (T : Tab) (all : Array Oper) (o : Oper) (r : List Oper) (st : St) : runP T all (o :: r) st = match stepP T all o st with | (c, s1) => match runP T all r s1 with | (c2, s2) => (c && c2, s2) := rfl
theorem stepP_none (T : Tab) (all : Array Oper) (d : Nat) (op : Op) (ty : TypeId) (pos : String) (aft : Array Edge) (n : Nat) (s : List (Nat × AVal)) (h : List (Option Blk)) :
  stepP T all ⟨some d, op, ty, pos, aft, none⟩ ⟨n, s, h⟩ = match pv T h true (opd s) op with | (c, v) => (c && decide (d < n), ⟨n, putL s d v, h⟩) := by
 simp [stepP, pcOf]
theorem stepP_some (T : Tab) (all : Array Oper) (d : Nat) (op : Op) (ty : TypeId) (pos : String) (aft : Array Edge) (g : Nat × Bool) (n : Nat) (s : List (Nat × AVal)) (h : List (Option Blk)) :
  stepP T all ⟨some d, op, ty, pos, aft, some g⟩ ⟨n, s, h⟩ = match pcOf all s (some g) with | (k, pc) => match pv T h pc (opd s) op with | (c, v) => (k && c && decide (d < n), ⟨n, putL s d (.opt pc v), h⟩) := by
 simp [stepP]
theorem stepA_move (T : Tab) (all : Array Oper) (d : Option Nat) (x : Operand) (ty : TypeId) (pos : String) (aft : Array Edge) (g : Option (Nat × Bool)) (st : St) : stepA T all ⟨d, .move x, ty, pos, aft, g⟩ st = stepP T all ⟨d, .move x, ty, pos, aft, g⟩ st := rfl
theorem stepA_assign (T : Tab) (all : Array Oper) (d : Option Nat) (x : Operand) (ty : TypeId) (pos : String) (aft : Array Edge) (g : Option (Nat × Bool)) (st : St) : stepA T all ⟨d, .assign x, ty, pos, aft, g⟩ st = stepP T all ⟨d, .assign x, ty, pos, aft, g⟩ st := rfl
theorem stepA_pick (T : Tab) (all : Array Oper) (d : Option Nat) (c x y : Operand) (ty : TypeId) (pos : String) (aft : Array Edge) (g : Option (Nat × Bool)) (st : St) : stepA T all ⟨d, .pick c x y, ty, pos, aft, g⟩ st = stepP T all ⟨d, .pick c x y, ty, pos, aft, g⟩ st := rfl
theorem stepA_bin (T : Tab) (all : Array Oper) (d : Option Nat) (o : BinOp) (t t2 : TypeId) (x y : Operand) (ty : TypeId) (pos : String) (aft : Array Edge) (g : Option (Nat × Bool)) (st : St) : stepA T all ⟨d, .binOp o t x y t2, ty, pos, aft, g⟩ st = stepP T all ⟨d, .binOp o t x y t2, ty, pos, aft, g⟩ st := rfl
theorem stepA_un (T : Tab) (all : Array Oper) (d : Option Nat) (o : UnOp) (t : TypeId) (x : Operand) (ty : TypeId) (pos : String) (aft : Array Edge) (g : Option (Nat × Bool)) (st : St) : stepA T all ⟨d, .unOp o t x, ty, pos, aft, g⟩ st = stepP T all ⟨d, .unOp o t x, ty, pos, aft, g⟩ st := rfl
theorem stepA_conv (T : Tab) (all : Array Oper) (d : Option Nat) (t t2 : TypeId) (x : Operand) (ty : TypeId) (pos : String) (aft : Array Edge) (g : Option (Nat × Bool)) (st : St) : stepA T all ⟨d, .convert t t2 x, ty, pos, aft, g⟩ st = stepP T all ⟨d, .convert t t2 x, ty, pos, aft, g⟩ st := rfl
theorem stepA_ext (T : Tab) (all : Array Oper) (d : Option Nat) (x : Operand) (i : Nat) (ty : TypeId) (pos : String) (aft : Array Edge) (g : Option (Nat × Bool)) (st : St) : stepA T all ⟨d, .extract x i, ty, pos, aft, g⟩ st = stepP T all ⟨d, .extract x i, ty, pos, aft, g⟩ st := rfl
theorem stepA_idxa (T : Tab) (all : Array Oper) (d : Option Nat) (t : TypeId) (x y : Operand) (ty : TypeId) (pos : String) (aft : Array Edge) (g : Option (Nat × Bool)) (st : St) : stepA T all ⟨d, .indexAddr t x y, ty, pos, aft, g⟩ st = stepP T all ⟨d, .indexAddr t x y, ty, pos, aft, g⟩ st := rfl
theorem stepA_idx (T : Tab) (all : Array Oper) (d : Option Nat) (t : TypeId) (x y : Operand) (ty : TypeId) (pos : String) (aft : Array Edge) (g : Option (Nat × Bool)) (st : St) : stepA T all ⟨d, .index t x y, ty, pos, aft, g⟩ st = stepP T all ⟨d, .index t x y, ty, pos, aft, g⟩ st := rfl
theorem stepA_nc (T : Tab) (all : Array Oper) (d : Option Nat) (x : Operand) (ty : TypeId) (pos : String) (aft : Array Edge) (g : Option (Nat × Bool)) (st : St) : stepA T all ⟨d, .nilCheck x, ty, pos, aft, g⟩ st = stepP T all ⟨d, .nilCheck x, ty, pos, aft, g⟩ st := rfl
theorem stepA_load (T : Tab) (all : Array Oper) (d : Option Nat) (t : TypeId) (x : Operand) (ty : TypeId) (pos : String) (aft : Array Edge) (g : Option (Nat × Bool)) (st : St) : stepA T all ⟨d, .load t x, ty, pos, aft, g⟩ st = stepP T all ⟨d, .load t x, ty, pos, aft, g⟩ st := rfl
theorem stepA_field (T : Tab) (all : Array Oper) (d : Option Nat) (t : TypeId) (x : Operand) (i : Nat) (ty : TypeId) (pos : String) (aft : Array Edge) (g : Option (Nat × Bool)) (st : St) : stepA T all ⟨d, .field t x i, ty, pos, aft, g⟩ st = stepP T all ⟨d, .field t x i, ty, pos, aft, g⟩ st := rfl
theorem stepA_build (T : Tab) (all : Array Oper) (d : Option Nat) (t : TypeId) (x : Array (Nat × Operand)) (ty : TypeId) (pos : String) (aft : Array Edge) (g : Option (Nat × Bool)) (st : St) : stepA T all ⟨d, .build t x, ty, pos, aft, g⟩ st = stepP T all ⟨d, .build t x, ty, pos, aft, g⟩ st := rfl
theorem stepA_fa (T : Tab) (all : Array Oper) (d : Option Nat) (t : TypeId) (x : Operand) (i : Nat) (ty : TypeId) (pos : String) (aft : Array Edge) (g : Option (Nat × Bool)) (st : St) : stepA T all ⟨d, .fieldAddr t x i, ty, pos, aft, g⟩ st = stepP T all ⟨d, .fieldAddr t x i, ty, pos, aft, g⟩ st := rfl
theorem stepA_mf (T : Tab) (all : Array Oper) (d : Option Nat) (f : Fn) (x y : Array Operand) (ty : TypeId) (pos : String) (aft : Array Edge) (g : Option (Nat × Bool)) (st : St) : stepA T all ⟨d, .makeFunc f x y, ty, pos, aft, g⟩ st = stepP T all ⟨d, .makeFunc f x y, ty, pos, aft, g⟩ st := rfl
theorem stepA_slice (T : Tab) (all : Array Oper) (d : Option Nat) (t : TypeId) (x : Operand) (l h m : Option Operand) (ty : TypeId) (pos : String) (aft : Array Edge) (g : Option (Nat × Bool)) (st : St) : stepA T all ⟨d, .slice t x l h m, ty, pos, aft, g⟩ st = stepP T all ⟨d, .slice t x l h m, ty, pos, aft, g⟩ st := rfl
theorem stepA_len (T : Tab) (all : Array Oper) (d : Option Nat) (x : Array Operand) (t : Array TypeId) (ty : TypeId) (pos : String) (aft : Array Edge) (g : Option (Nat × Bool)) (st : St) : stepA T all ⟨d, .call ⟨.builtin .len, x, t⟩, ty, pos, aft, g⟩ st = stepP T all ⟨d, .call ⟨.builtin .len, x, t⟩, ty, pos, aft, g⟩ st := rfl
theorem stepA_max (T : Tab) (all : Array Oper) (d : Option Nat) (x : Array Operand) (t : Array TypeId) (ty : TypeId) (pos : String) (aft : Array Edge) (g : Option (Nat × Bool)) (st : St) : stepA T all ⟨d, .call ⟨.builtin .max, x, t⟩, ty, pos, aft, g⟩ st = stepP T all ⟨d, .call ⟨.builtin .max, x, t⟩, ty, pos, aft, g⟩ st := rfl
theorem stepA_min (T : Tab) (all : Array Oper) (d : Option Nat) (x : Array Operand) (t : Array TypeId) (ty : TypeId) (pos : String) (aft : Array Edge) (g : Option (Nat × Bool)) (st : St) : stepA T all ⟨d, .call ⟨.builtin .min, x, t⟩, ty, pos, aft, g⟩ st = stepP T all ⟨d, .call ⟨.builtin .min, x, t⟩, ty, pos, aft, g⟩ st := rfl
theorem stepA_alloc (T : Tab) (all : Array Oper) (d : Option Nat) (t : TypeId) (ty : TypeId) (pos : String) (aft : Array Edge) (st : St) : stepA T all ⟨d, .alloc t, ty, pos, aft, none⟩ st = stepE T st d (.alloc t) := by simp [stepA, isEff]
theorem stepA_box (T : Tab) (all : Array Oper) (d : Option Nat) (t : TypeId) (x : Operand) (ty : TypeId) (pos : String) (aft : Array Edge) (st : St) : stepA T all ⟨d, .box t x, ty, pos, aft, none⟩ st = stepE T st d (.box t x) := by simp [stepA, isEff]
theorem stepA_store (T : Tab) (all : Array Oper) (d : Option Nat) (t : TypeId) (x y : Operand) (ty : TypeId) (pos : String) (aft : Array Edge) (st : St) : stepA T all ⟨d, .store t x y, ty, pos, aft, none⟩ st = stepE T st d (.store t x y) := by simp [stepA, isEff]
theorem stepA_make (T : Tab) (all : Array Oper) (d : Option Nat) (t : TypeId) (x y : Operand) (ty : TypeId) (pos : String) (aft : Array Edge) (st : St) : stepA T all ⟨d, .makeSlice t x y, ty, pos, aft, none⟩ st = stepE T st d (.makeSlice t x y) := by simp [stepA, isEff]
theorem stepA_bs (T : Tab) (all : Array Oper) (d : Option Nat) (t : TypeId) (n : Nat) (x : Array (Nat × Operand)) (ty : TypeId) (pos : String) (aft : Array Edge) (st : St) : stepA T all ⟨d, .buildSlice t n x, ty, pos, aft, none⟩ st = stepE T st d (.buildSlice t n x) := by simp [stepA, isEff]
theorem stepA_app (T : Tab) (all : Array Oper) (d : Option Nat) (x : Array Operand) (t : Array TypeId) (ty : TypeId) (pos : String) (aft : Array Edge) (st : St) : stepA T all ⟨d, .call ⟨.builtin .append, x, t⟩, ty, pos, aft, none⟩ st = stepE T st d (.call ⟨.builtin .append, x, t⟩) := by simp [stepA, isEff]
theorem shlOk_one (b : Int) : shlOk .i64 1 b = (decide (0 ≤ b) && decide (b ≤ 62)) := by
 rw [Bool.eq_iff_iff]
 simp only [shlOk, Bool.and_eq_true, decide_eq_true_eq, inb, lo, hi, IntKind.bits, Int.one_mul]
 constructor
 ·rintro ⟨⟨h1, h2, h3⟩, h4⟩
  refine ⟨h1, ?_⟩
  rcases Int.lt_or_le 62 b with q | q
  ·exfalso
   have : (2 : Int) ^ 63 ≤ 2 ^ b.toNat := by exact_mod_cast Nat.pow_le_pow_right (show 0 < 2 by omega) (show 63 ≤ b.toNat by omega)
   omega
  ·exact q
 ·rintro ⟨h1, h2⟩
  have h3 : (2 : Int) ^ b.toNat ≤ 2 ^ 62 := by exact_mod_cast Nat.pow_le_pow_right (show 0 < 2 by omega) (show b.toNat ≤ 62 by omega)
  have h4 : (0 : Int) < 2 ^ b.toNat := Int.pow_pos (by omega)
  exact ⟨⟨h1, by omega, by omega⟩, by simp; omega⟩
theorem beq_ff (b : Bool) : (b == false) = !b := by cases b <;> rfl
theorem beq_tt (b : Bool) : (b == true) = b := by cases b <;> rfl
theorem not_or_s (b : Bool) : (!b || b) = true := by cases b <;> rfl
theorem or_not_s (b : Bool) : (b || !b) = true := by cases b <;> rfl
theorem and_s (b : Bool) : (b && b) = b := by cases b <;> rfl
theorem sc_bool (pc b : Bool) : sc pc (.bool b) = true := rfl
theorem sc_int (pc : Bool) (k : IntKind) (n : Int) : sc pc (.int k n) = true := rfl
theorem inb_i64 (n : Int) : inb .i64 n = (decide (-9223372036854775808 ≤ n) && decide (n ≤ 9223372036854775807)) := rfl
theorem inb_u64 (n : Int) : inb .u64 n = (decide (0 ≤ n) && decide (n ≤ 18446744073709551615)) := rfl
theorem inb_u8 (n : Int) : inb .u8 n = (decide (0 ≤ n) && decide (n ≤ 255)) := rfl
theorem inb_u32 (n : Int) : inb .u32 n = (decide (0 ≤ n) && decide (n ≤ 4294967295)) := rfl
theorem inb_i32 (n : Int) : inb .i32 n = (decide (-2147483648 ≤ n) && decide (n ≤ 2147483647)) := rfl
theorem cond_tt (a b : Bool) : (bif a then true else b) = (a || b) := by cases a <;> rfl
theorem cond_ff (a b : Bool) : (bif a then b else false) = (a && b) := by cases a <;> rfl
theorem bits_i64 : IntKind.bits .i64 = 64 := rfl
theorem bits_u64 : IntKind.bits .u64 = 64 := rfl
theorem intEs_len (k : IntKind) (xs : List Int) : (intEs k xs).length = xs.length := by simp [intEs]
theorem iand_bd {a b : Int} (ha : 0 ≤ a) (hb : 0 ≤ b) : 0 ≤ iand a b ∧ iand a b ≤ a ∧ iand a b ≤ b := by
 obtain ⟨x, rfl⟩ := Int.eq_ofNat_of_zero_le ha
 obtain ⟨y, rfl⟩ := Int.eq_ofNat_of_zero_le hb
 rw [iand_nn]
 have h1 := Nat.and_le_left (n := x) (m := y)
 have h2 := Nat.and_le_right (n := x) (m := y)
 omega
theorem tmod_two (a : Nat) : (a : Int).tmod 2 = ((a % 2 : Nat) : Int) := (Int.ofNat_tmod a 2).symm
theorem take_app {α : Type} (xs ys : List α) (m : Nat) : List.take (xs.length + m) (xs ++ ys) = xs ++ List.take m ys := by rw [List.take_append, List.take_of_length_le (by omega), Nat.add_sub_cancel_left]
theorem oneCell_int (k : IntKind) (n : Int) : (Value.int k n).oneCell' = true := rfl
theorem oneCell_bool (b : Bool) : (Value.bool b).oneCell' = true := rfl
theorem oneCell_str (b : ByteArray) : (Value.string b).oneCell' = true := rfl
theorem oneCell_slice (a : Option Addr) (b c : Nat) : (Value.slice a b c).oneCell' = true := rfl
/-- A list run, and what is kept of the slots. -/
def runK (T : Tab) (K : List Nat) (all : Array Oper) (l : List Oper) (st : St) : Bool × St := match runL T all l st with | (c, ⟨n, s, h⟩) => (c, ⟨n, keepL K s, h⟩)
def runPK (T : Tab) (K : List Nat) (all : Array Oper) (l : List Oper) (st : St) : Bool × St := match runP T all l st with | (c, ⟨n, s, h⟩) => (c, ⟨n, keepL K s, h⟩)
section
variable {P : Program} {T : Tab} {w0 : World}
theorem AWP_rg (hT : TabOk P T) (K : List Nat) {id : Nat} {l : List Oper} {Q : Exit → St → Prop} {st : St} (h : ∀ c st', runK T K l.toArray l st = (c, st') → c = true ∧ Q .normal st') : AWP P w0 (.region id l.toArray false) Q st := by
 obtain ⟨h1, h2⟩ := h _ _ rfl
 refine AWP_region ?_
 have := AWPL_runL (P := P) (w0 := w0) (all := l.toArray) (Q := Q) (rest := []) hT (l := l) (st := st) h1 fun F φ a w hr => AWPL_nil (P := P) (w0 := w0) h2 F φ a w (hr.keep K)
 simpa using this
theorem AWP_dr (hT : TabOk P T) (K : List Nat) {id : Nat} {l : List Oper} {Q : Exit → St → Prop} {st : St} (hm : P.follows .mixedOrders = true) (hB : Region.lexB .any l.toArray = true) (h : ∀ c st', runPK T K l.toArray l st = (c, st') → c = true ∧ Q .normal st') : AWP P w0 (.region id l.toArray true) Q st := by
 refine AWP_draw hT K hm hB fun c st' hr => ?_
 have hr' : runP T l.toArray l st = (c, st') := by simpa using hr
 exact h c ⟨st'.n, keepL K st'.s, st'.h⟩ (by simp [runPK, hr'])
/-- A region with calls: its list, piece by piece. -/
theorem AWP_rl {id : Nat} {l : List Oper} {Q : Exit → St → Prop} {st : St} (h : AWPL P w0 l.toArray Q l st) : AWP P w0 (.region id l.toArray false) Q st := AWP_region (by simpa using h)
theorem AWPL_rn (hT : TabOk P T) (n : Nat) (K : List Nat) {all : Array Oper} {Q : Exit → St → Prop} {l : List Oper} {st : St}
  (h : ∀ c st', runK T K all (l.take n) st = (c, st') → c = true ∧ AWPL P w0 all Q (l.drop n) st') : AWPL P w0 all Q l st := by
 obtain ⟨h1, h2⟩ := h _ _ rfl
 rw [← List.take_append_drop n l]
 exact AWPL_runL hT h1 fun F φ a w hr => h2 F φ a w (hr.keep K)
/-- A call, the state behind it written out, some slots kept. -/
theorem AWPL_callK (K : List Nat) {st : St} {all : Array Oper} {Q : Exit → St → Prop} {rest : List Oper} {o : Oper} {fo : Operand} {args : Array Operand} {tys : Array TypeId} {d f : Nat} {caps ys : List AVal} {r : AVal} {H : List Blk}
  (hP : Pure P f ys r H) (hop : o.op = .call ⟨.value fo, args, tys⟩) (hdst : o.dst = some d) (hpc : pcOf all st.s o.guard = (true, true)) (hf : opd st.s fo = .func f caps) (hcall : ∀ args w, (callFunc f args).run P w = .ok (.enter f args) w)
  (hargs : ArgsOk st.h ((args.toList.map fun x => sv (opd st.s x)) ++ caps) ys) (hsc : (args.toList.all fun x => sc true (opd st.s x)) = true) (hd : d < st.n) (hr : nI r = true) (hH : H.all nIB = true)
  (h : ∀ st', (⟨st.n, keepL K (putL st.s d (sh st.h.length r)), st.h ++ H.map fun b => some (shB st.h.length b)⟩ : St) = st' → AWPL P w0 all Q rest st') : AWPL P w0 all Q (o :: rest) st :=
 AWPL_call hop hdst hpc hf hcall hP hargs hsc hd hr hH fun F φ a w hrel => h _ rfl F φ a w (hrel.keep K)
theorem Rel.reslot {F : Fz} {φ : Phi} {st : St} {a : Act} {w : World} (h : Rel F φ w0 st a w) {s' : List (Nat × AVal)} (hs : ∀ (i : Nat) (v : Value), RepV F φ (look st.s i) v → RepV F φ (look s' i) v) : Rel F φ w0 { st with s := s' } a w :=
 ⟨h.heap, h.size, fun i => hs i _ (h.slots i), h.defers, h.below⟩
/-- A call under a guard that the state leaves open. -/
theorem AWPL_callG (K : List Nat) (g : Bool) {st : St} {all : Array Oper} {Q : Exit → St → Prop} {rest : List Oper} {o : Oper} {fo : Operand} {args : Array Operand} {tys : Array TypeId} {d f : Nat} {caps ys : List AVal} {r : AVal}
  (hP : Pure P f ys r []) (hop : o.op = .call ⟨.value fo, args, tys⟩) (hdst : o.dst = some d) (hpc : pcOf all st.s o.guard = (true, g)) (hf : opd st.s fo = .func f caps) (hcall : ∀ args w, (callFunc f args).run P w = .ok (.enter f args) w)
  (hargs : ArgsOk st.h ((args.toList.map fun x => sv (opd st.s x)) ++ caps) ys) (hsc : g = true → (args.toList.all fun x => sc true (opd st.s x)) = true) (hd : d < st.n) (hr : nI r = true) (hsh : sh st.h.length r = r)
  (h : ∀ st', (⟨st.n, keepL K (putL st.s d (.opt g r)), st.h⟩ : St) = st' → AWPL P w0 all Q rest st') : AWPL P w0 all Q (o :: rest) st := by
 have step : ∀ (x : AVal) (F : Fz) (φ : Phi) (a : Act) (w : World), Rel F φ w0 ⟨st.n, putL st.s d x, st.h⟩ a w → (∀ v, RepV F φ x v → RepV F φ (.opt g r) v) → Rel F φ w0 ⟨st.n, keepL K (putL st.s d (.opt g r)), st.h⟩ a w := by
  intro x F φ a w hrel hx
  refine (Rel.keep (Rel.reslot hrel (s' := putL st.s d (.opt g r)) fun i v hv => ?_) K)
  simp only [look_putL] at hv ⊢
  split
  ·rename_i e; rw [if_pos e] at hv; exact hx v hv
  ·rename_i e; rw [if_neg e] at hv; exact hv
 cases g with
 | true =>
  refine AWPL_call hop hdst hpc hf hcall hP hargs (hsc rfl) hd hr rfl fun F φ a w hrel => ?_
  refine h _ rfl F φ a w (step (sh st.h.length r) F φ a w (by simpa using hrel) fun v hv => ?_)
  rw [hsh] at hv
  exact .opt _ _ _ (fun _ => hv) (fun h => nomatch h)
 | false =>
  refine AWPL_skip hdst hpc hd fun F φ a w hrel => ?_
  refine h _ rfl F φ a w (step (.opt false .junk) F φ a w hrel fun v hv => ?_)
  cases hv with | opt _ _ _ h1 h2 => exact .opt _ _ _ (fun h => nomatch h) h2
theorem inBlockA_exit {id : Nat} {Q : Exit → St → Prop} {st : St} (h : Q .normal st) : inBlockA id Q (.exit id) st := by simpa [inBlockA] using h
/-- A slot that holds nil is a new list of the call's own, empty. -/
theorem Rel.nilOwn {F : Fz} {φ : Phi} {st : St} {a : Act} {w : World} (h : Rel F φ w0 st a w) {i : Nat} (hi : look st.s i = .nil) {b : Blk} (hb : b.es = []) (hp : b.np = true) :
  Rel F (upd φ st.h.length .nils) w0 { st with s := putL st.s i (.own st.h.length 0), h := st.h ++ [some b] } a w := by
 obtain ⟨h1, h2⟩ := h.heap.adoptL b .nils (.inl ⟨by simp [upd], hb⟩) (fun _ _ _ _ _ h => h) hp
 refine ⟨h1, h.size, fun j => ?_, h.defers, h.below⟩
 show RepV F _ (look (putL st.s i (.own st.h.length 0)) j) _
 rw [look_putL]
 split
 ·rename_i e; subst e
  have := h.slots i
  rw [hi] at this
  generalize a.tmps.getD i undef = v at this
  cases this
  exact .ownNil _ (by simp [upd])
 ·exact (h.slots j).le (FLe.refl F) h2
theorem AWP_own (i : Nat) (b : Blk) {c : Code} {Q : Exit → St → Prop} {st : St} (hb : b.es = []) (hi : look st.s i = .nil) (h : ∀ st', (⟨st.n, putL st.s i (.own st.h.length 0), st.h ++ [some b]⟩ : St) = st' → AWP P w0 c Q st') (hp : b.np = true := by rfl) : AWP P w0 c Q st :=
 fun F φ a w hr => h _ rfl F _ a w (hr.nilOwn hi hb hp)
/-- The end of a loop's round. -/
def loopC {κ : Type} (S : κ → St) (C : κ → Prop) (μ : κ → Nat) (x : κ) (Q : Exit → St → Prop) : Exit → St → Prop := thenA (fun st' => ∃ x' ρ, C x' ∧ μ x' < μ x ∧ Wk ρ st' (S x')) Q
/-- A loop: its states by a number or what you like, what holds of it, a measure. -/
theorem AWP_loopS {κ : Type} {c : Code} {Q : Exit → St → Prop} {st : St} (S : κ → St) (C : κ → Prop) (μ : κ → Nat) (x0 : κ) (ρ : List Nat) (h0 : C x0) (hw : Wk ρ st (S x0))
  (round : ∀ x, C x → AWP P w0 c (loopC S C μ x Q) (S x)) : AWP P w0 (.loop c) Q st := by
 refine AWP_wk ρ hw ?_
 intro F φ a w hr
 exact wp_loop_ghost (fun n a w => ∃ x F' φ', C x ∧ μ x = n ∧ FLn w0 F F' ∧ Rel F' φ' w0 (S x) a w) (μ x0) ⟨x0, F, φ, h0, rfl, FLn.refl F, hr⟩ fun n a w ⟨x, F', φ', hC, hm, f, r⟩ => by
  refine wp_mono (round x hC F' φ' a w r) fun e a' w' hq => ?_
  obtain ⟨st', F2, φ2, q, f2, r2⟩ := hq
  cases e with
  | normal =>
   obtain ⟨x', ρ', hC', hlt, hwk⟩ := q
   exact ⟨μ x', by omega, x', F2, _, hC', rfl, f.trans f2, r2.wk hwk⟩
  | _ => exact ⟨st', F2, φ2, q, f.trans f2, r2⟩
/-- The next state. -/
theorem loop_again {κ : Type} {S : κ → St} {C : κ → Prop} {μ : κ → Nat} {x : κ} {Q : Exit → St → Prop} {st' : St} (x' : κ) (ρ : List Nat) (hC : C x') (hm : μ x' < μ x) (hw : Wk ρ st' (S x')) :
  loopC S C μ x Q .normal st' := ⟨x', ρ, hC, hm, hw⟩
/-- What is known of a value because it is one. -/
def fact0 : AVal → Prop
 | .int k n => lo k ≤ n ∧ n ≤ hi k
 | .ints k xs => xs.length ≤ maxLen ∧ ∀ x ∈ xs, lo k ≤ x ∧ x ≤ hi k
 | .str s => s.length ≤ maxLen
 | .intp k n => lo k ≤ n ∧ n ≤ hi k
 | _ => True
def factL0 : List AVal → Prop
 | [] => True
 | x :: r => fact0 x ∧ factL0 r
def fact1 : AVal → Prop
 | .agg l => factL0 l
 | .imm sz es => es.length ≤ maxLen ∧ ∀ e ∈ es, e.length = sz ∧ factL0 e
 | .immp es => factL0 es
 | .fn sz n f => n ≤ maxLen ∧ ∀ i, i < n → factL0 (f i)
 | x => fact0 x
def factL1 : List AVal → Prop
 | [] => True
 | x :: r => fact1 x ∧ factL1 r
theorem fact0_rep {F : Fz} {φ : Phi} {x : AVal} {v : Value} (h : RepV F φ x v) : fact0 x := by
 cases x <;> simp only [fact0]
 case int => exact (int_inv h).2
 case str => cases h with | str _ _ h1 h2 => exact h2
 case intp => cases h with | intp _ _ _ h => cases h with | immp _ ad u h1 h2 => exact (int_inv (h2 0 _ rfl)).2
 case ints k xs =>
  cases h with | ints _ _ _ h => cases h with | imm _ _ A n c u h1 h2 h3 h4 h5 h6 h7 =>
   refine ⟨by simp [intEs] at h1; omega, fun x hx => ?_⟩
   obtain ⟨i, hi, rfl⟩ := List.getElem_of_mem hx
   have := h7 i [.int k xs[i]] 0 (.int k xs[i]) (by simp [intEs, hi]) rfl
   exact (int_inv this).2
theorem factL0_of {l : List AVal} (h : ∀ (i : Nat) (x : AVal), l[i]? = some x → fact0 x) : factL0 l := by
 induction l with
 | nil => trivial
 | cons x r ih => exact ⟨h 0 x rfl, ih fun i y hy => h (i + 1) y (by simpa using hy)⟩
theorem fact1_rep {F : Fz} {φ : Phi} {x : AVal} {v : Value} (h : RepV F φ x v) : fact1 x := by
 cases x
 case agg l =>
  cases h with | agg _ vs hl h1 h2 =>
   refine factL0_of fun i x hx => ?_
   have hi : i < l.length := by
    rcases Nat.lt_or_ge i l.length with q | q
    ·exact q
    ·rw [List.getElem?_eq_none q] at hx; cases hx
   exact fact0_rep (h2 i x _ hx (Array.getElem?_eq_getElem (show i < vs.size by omega)))
 case imm sz es =>
  cases h with | imm _ _ A n c u h1 h2 h3 h4 h5 h6 h7 =>
   refine ⟨by omega, fun e he => ?_⟩
   obtain ⟨i, hi, rfl⟩ := List.getElem_of_mem he
   have hq := List.getElem?_eq_getElem hi
   exact ⟨h4 i _ hq, factL0_of fun j x hx => fact0_rep (h7 i _ j x hq hx)⟩
 case immp es =>
  cases h with | immp _ ad u h1 h2 =>
   exact factL0_of fun i x hx => fact0_rep (h2 i x hx)
 case fn sz m f =>
  cases h with | fn _ _ _ _ h => cases h with | imm _ _ A n c u h1 h2 h3 h4 h5 h6 h7 =>
   refine ⟨by simp [fnEs] at h1; omega, fun i hi => ?_⟩
   have hq : (fnEs m f)[i]? = some (f i) := by simp [fnEs, hi]
   exact factL0_of fun j x hx => fact0_rep (h7 i _ j x hq hx)
 all_goals exact fact0_rep h
theorem factL1_of {l : List AVal} (h : ∀ (i : Nat) (x : AVal), l[i]? = some x → fact1 x) : factL1 l := by
 induction l with
 | nil => trivial
 | cons x r ih => exact ⟨h 0 x rfl, ih fun i y hy => h (i + 1) y (by simpa using hy)⟩
theorem Pure_introF (hT : TabOk P T) {f : FuncId} {fn : Func} {c : Code} {n : Nat} {l : List ResultVar} {args : List AVal} {r : AVal} {H : List Blk} (hf : P.funcs[f]? = some fn) (hb : fn.body = some c) (hn : fn.ntmps = n) (hl : fn.results = l.toArray)
  (hle : args.length ≤ n) (h : factL1 args → ∀ w0, AWP P w0 c (Ends T l r H) ⟨n, enumA 0 args, []⟩) : Pure P f args r H := by
 intro w F vs hag hlen hargs
 refine Pure_intro hT hf hb hn hl hle (h (factL1_of fun i x hx => ?_)) w F vs hag hlen hargs
 have hi : i < vs.size := by
  rw [← hlen]
  rcases Nat.lt_or_ge i args.length with q | q
  ·exact q
  ·rw [List.getElem?_eq_none q] at hx; cases hx
 exact fact1_rep (hargs i x _ hx (Array.getElem?_eq_getElem hi))
/-- An end without blocks. -/
theorem Ends0 {l : List ResultVar} {r x : AVal} {e : Exit} {st : St} (he : e = .ret ∨ e = .normal) (h : resA T st l = (true, x)) (hx : ren [] r = x) (hb : st.h.length ≤ bigId) : Ends T l r [] e st :=
 ⟨he, by rw [h], [], by rw [h]; exact hx.symm, ⟨rfl, hb, List.nodup_nil, rfl, trivial, trivial⟩⟩
theorem EndsR0 {l : List ResultVar} {r : AVal} {e : Exit} {st : St} (he : e = .ret ∨ e = .normal) (hb : st.h.length ≤ bigId) (h : ∀ c x, resA T st l = (c, x) → c = true ∧ ren [] r = x) : Ends T l r [] e st := by
 obtain ⟨h1, h2⟩ := h _ _ rfl
 exact Ends0 he (x := (resA T st l).2) (Prod.ext h1 rfl) h2 hb
end
attribute [go_sem] capN stepA_nc ptrA stepA_build buildA fillA setAt tmod_two Option.getD_some take_app oneCell_int oneCell_bool oneCell_str oneCell_slice List.range_zero eq_self intEs_len Nat.le_refl and_true true_and List.take_length List.length_append shlOk_one beq_ff beq_tt not_or_s or_not_s and_s Bool.not_not Int.one_mul sh sh1 sh0 shB ren ren1 ren0 renI renB runL_nil runL_cons runP_nil runP_cons stepP_none stepP_some stepA_move stepA_assign stepA_pick stepA_bin stepA_un stepA_conv stepA_ext stepA_idxa stepA_idx stepA_load stepA_field stepA_fa stepA_mf stepA_slice stepA_len stepA_max stepA_min stepA_alloc stepA_box stepA_store stepA_make stepA_bs stepA_app inb_i64 inb_u64 inb_u8 inb_u32 inb_i32 cond_tt cond_ff bits_i64 bits_u64 runK runPK keepL pv opd look putL absV sv sc isB bv bin3 bin2 un1 hdA ldC getB idxA loadA fieldA fieldAddrA
 lenTy lenA extA strA bndA sliceA maxA isAggT known stepE zv okInt okZero zeroA zeroB blk0 blk1 one1 cellsA storeB killO appB srcA takeB catB emptyB partsB intsOf rowsOf pcOf gslot enumA resV resA Blk.et Blk.sz Blk.es
 byteStr List.take_succ_cons List.take_zero List.drop_succ_cons List.drop_zero List.take_nil List.drop_nil Bool.true_and Bool.and_true Bool.false_and Bool.and_false Bool.not_true Bool.not_false Bool.true_or Bool.or_true Bool.false_or Bool.or_false cond_true cond_false decide_true decide_false
 List.contains_cons List.contains_nil List.getElem?_toArray List.getElem?_cons_succ List.getElem?_cons_zero Option.bind_some Option.map_some Option.map_none Option.all_some Option.all_none List.map_cons List.map_nil List.all_cons List.all_nil List.length_cons List.length_nil
 List.cons_append List.nil_append List.append_nil List.set_cons_zero List.set_cons_succ List.getD_cons_zero List.getD_cons_succ List.size_toArray if_true if_false beq_self_eq_true Nat.zero_add Nat.add_zero Int.toNat_natCast Int.natCast_nonneg Int.toNat_zero
end Go.AX
