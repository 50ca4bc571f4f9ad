/-
  Rewriting rules by which a list of operations is run on an abstract state. Conditions: none.
-/
import Derived.Test.YtcjhpcbipcdhiaaAxK
set_option linter.unusedSimpArgs false
set_option linter.unusedVariables false
namespace Go.AX
open Go Go.RowKit

theorem runL_nil (T : Tab) (all : Array Oper) (st : St) : runL T all [] st = (true, st) := rfl
theorem runL_cons (T : Tab) (all : Array Oper) (o : Oper) (r : List Oper) (st : St) : runL T all (o :: r) st = match stepA T all o st with | (c, s1) => match runL T all r s1 with | (c2, s2) => (c && c2, s2) := rfl
theorem runP_nil (T : Tab) (all : Array Oper) (st : St) : runP T all [] st = (true, st) := rfl
theorem runP_cons (T : Tab) (all : Array Oper) (o : Oper) (r : List Oper) (st : St) : runP T all (o :: r) st = match stepP T all o st with | (c, s1) => match runP T all r s1 with | (c2, s2) => (c && c2, s2) := rfl

theorem stepP_none (T : Tab) (all : Array Oper) (d : Nat) (op : Op) (ty : TypeId) (pos : String) (aft : Array Edge) (n : Nat) (s : List (Nat × AVal)) (h : List (Option Blk)) :
    stepP T all ⟨some d, op, ty, pos, aft, none⟩ ⟨n, s, h⟩ = match pv T h true (opd s) op with | (c, v) => (c && decide (d < n), ⟨n, putL s d v, h⟩) := by
  simp [stepP, pcOf]
theorem stepP_some (T : Tab) (all : Array Oper) (d : Nat) (op : Op) (ty : TypeId) (pos : String) (aft : Array Edge) (g : Nat × Bool) (n : Nat) (s : List (Nat × AVal)) (h : List (Option Blk)) :
    stepP T all ⟨some d, op, ty, pos, aft, some g⟩ ⟨n, s, h⟩ = match pcOf all s (some g) with | (k, pc) => match pv T h pc (opd s) op with | (c, v) => (k && c && decide (d < n), ⟨n, putL s d (.opt pc v), h⟩) := by
  simp [stepP]
theorem stepA_move (T : Tab) (all : Array Oper) (d : Option Nat) (x : Operand) (ty : TypeId) (pos : String) (aft : Array Edge) (g : Option (Nat × Bool)) (st : St) : stepA T all ⟨d, .move x, ty, pos, aft, g⟩ st = stepP T all ⟨d, .move x, ty, pos, aft, g⟩ st := rfl
theorem stepA_assign (T : Tab) (all : Array Oper) (d : Option Nat) (x : Operand) (ty : TypeId) (pos : String) (aft : Array Edge) (g : Option (Nat × Bool)) (st : St) : stepA T all ⟨d, .assign x, ty, pos, aft, g⟩ st = stepP T all ⟨d, .assign x, ty, pos, aft, g⟩ st := rfl
theorem stepA_pick (T : Tab) (all : Array Oper) (d : Option Nat) (c x y : Operand) (ty : TypeId) (pos : String) (aft : Array Edge) (g : Option (Nat × Bool)) (st : St) : stepA T all ⟨d, .pick c x y, ty, pos, aft, g⟩ st = stepP T all ⟨d, .pick c x y, ty, pos, aft, g⟩ st := rfl
theorem stepA_bin (T : Tab) (all : Array Oper) (d : Option Nat) (o : BinOp) (t t2 : TypeId) (x y : Operand) (ty : TypeId) (pos : String) (aft : Array Edge) (g : Option (Nat × Bool)) (st : St) : stepA T all ⟨d, .binOp o t x y t2, ty, pos, aft, g⟩ st = stepP T all ⟨d, .binOp o t x y t2, ty, pos, aft, g⟩ st := rfl
theorem stepA_un (T : Tab) (all : Array Oper) (d : Option Nat) (o : UnOp) (t : TypeId) (x : Operand) (ty : TypeId) (pos : String) (aft : Array Edge) (g : Option (Nat × Bool)) (st : St) : stepA T all ⟨d, .unOp o t x, ty, pos, aft, g⟩ st = stepP T all ⟨d, .unOp o t x, ty, pos, aft, g⟩ st := rfl
theorem stepA_conv (T : Tab) (all : Array Oper) (d : Option Nat) (t t2 : TypeId) (x : Operand) (ty : TypeId) (pos : String) (aft : Array Edge) (g : Option (Nat × Bool)) (st : St) : stepA T all ⟨d, .convert t t2 x, ty, pos, aft, g⟩ st = stepP T all ⟨d, .convert t t2 x, ty, pos, aft, g⟩ st := rfl
theorem stepA_ext (T : Tab) (all : Array Oper) (d : Option Nat) (x : Operand) (i : Nat) (ty : TypeId) (pos : String) (aft : Array Edge) (g : Option (Nat × Bool)) (st : St) : stepA T all ⟨d, .extract x i, ty, pos, aft, g⟩ st = stepP T all ⟨d, .extract x i, ty, pos, aft, g⟩ st := rfl
theorem stepA_idxa (T : Tab) (all : Array Oper) (d : Option Nat) (t : TypeId) (x y : Operand) (ty : TypeId) (pos : String) (aft : Array Edge) (g : Option (Nat × Bool)) (st : St) : stepA T all ⟨d, .indexAddr t x y, ty, pos, aft, g⟩ st = stepP T all ⟨d, .indexAddr t x y, ty, pos, aft, g⟩ st := rfl
theorem stepA_idx (T : Tab) (all : Array Oper) (d : Option Nat) (t : TypeId) (x y : Operand) (ty : TypeId) (pos : String) (aft : Array Edge) (g : Option (Nat × Bool)) (st : St) : stepA T all ⟨d, .index t x y, ty, pos, aft, g⟩ st = stepP T all ⟨d, .index t x y, ty, pos, aft, g⟩ st := rfl
theorem stepA_load (T : Tab) (all : Array Oper) (d : Option Nat) (t : TypeId) (x : Operand) (ty : TypeId) (pos : String) (aft : Array Edge) (g : Option (Nat × Bool)) (st : St) : stepA T all ⟨d, .load t x, ty, pos, aft, g⟩ st = stepP T all ⟨d, .load t x, ty, pos, aft, g⟩ st := rfl
theorem stepA_field (T : Tab) (all : Array Oper) (d : Option Nat) (t : TypeId) (x : Operand) (i : Nat) (ty : TypeId) (pos : String) (aft : Array Edge) (g : Option (Nat × Bool)) (st : St) : stepA T all ⟨d, .field t x i, ty, pos, aft, g⟩ st = stepP T all ⟨d, .field t x i, ty, pos, aft, g⟩ st := rfl
theorem stepA_build (T : Tab) (all : Array Oper) (d : Option Nat) (t : TypeId) (x : Array (Nat × Operand)) (ty : TypeId) (pos : String) (aft : Array Edge) (g : Option (Nat × Bool)) (st : St) : stepA T all ⟨d, .build t x, ty, pos, aft, g⟩ st = stepP T all ⟨d, .build t x, ty, pos, aft, g⟩ st := rfl
theorem stepA_fa (T : Tab) (all : Array Oper) (d : Option Nat) (t : TypeId) (x : Operand) (i : Nat) (ty : TypeId) (pos : String) (aft : Array Edge) (g : Option (Nat × Bool)) (st : St) : stepA T all ⟨d, .fieldAddr t x i, ty, pos, aft, g⟩ st = stepP T all ⟨d, .fieldAddr t x i, ty, pos, aft, g⟩ st := rfl
theorem stepA_mf (T : Tab) (all : Array Oper) (d : Option Nat) (f : Fn) (x y : Array Operand) (ty : TypeId) (pos : String) (aft : Array Edge) (g : Option (Nat × Bool)) (st : St) : stepA T all ⟨d, .makeFunc f x y, ty, pos, aft, g⟩ st = stepP T all ⟨d, .makeFunc f x y, ty, pos, aft, g⟩ st := rfl
theorem stepA_slice (T : Tab) (all : Array Oper) (d : Option Nat) (t : TypeId) (x : Operand) (l h m : Option Operand) (ty : TypeId) (pos : String) (aft : Array Edge) (g : Option (Nat × Bool)) (st : St) : stepA T all ⟨d, .slice t x l h m, ty, pos, aft, g⟩ st = stepP T all ⟨d, .slice t x l h m, ty, pos, aft, g⟩ st := rfl
theorem stepA_len (T : Tab) (all : Array Oper) (d : Option Nat) (x : Array Operand) (t : Array TypeId) (ty : TypeId) (pos : String) (aft : Array Edge) (g : Option (Nat × Bool)) (st : St) : stepA T all ⟨d, .call ⟨.builtin .len, x, t⟩, ty, pos, aft, g⟩ st = stepP T all ⟨d, .call ⟨.builtin .len, x, t⟩, ty, pos, aft, g⟩ st := rfl
theorem stepA_max (T : Tab) (all : Array Oper) (d : Option Nat) (x : Array Operand) (t : Array TypeId) (ty : TypeId) (pos : String) (aft : Array Edge) (g : Option (Nat × Bool)) (st : St) : stepA T all ⟨d, .call ⟨.builtin .max, x, t⟩, ty, pos, aft, g⟩ st = stepP T all ⟨d, .call ⟨.builtin .max, x, t⟩, ty, pos, aft, g⟩ st := rfl
theorem stepA_min (T : Tab) (all : Array Oper) (d : Option Nat) (x : Array Operand) (t : Array TypeId) (ty : TypeId) (pos : String) (aft : Array Edge) (g : Option (Nat × Bool)) (st : St) : stepA T all ⟨d, .call ⟨.builtin .min, x, t⟩, ty, pos, aft, g⟩ st = stepP T all ⟨d, .call ⟨.builtin .min, x, t⟩, ty, pos, aft, g⟩ st := rfl
theorem stepA_alloc (T : Tab) (all : Array Oper) (d : Option Nat) (t : TypeId) (ty : TypeId) (pos : String) (aft : Array Edge) (st : St) : stepA T all ⟨d, .alloc t, ty, pos, aft, none⟩ st = stepE T st d (.alloc t) := by simp [stepA, isEff]
theorem stepA_box (T : Tab) (all : Array Oper) (d : Option Nat) (t : TypeId) (x : Operand) (ty : TypeId) (pos : String) (aft : Array Edge) (st : St) : stepA T all ⟨d, .box t x, ty, pos, aft, none⟩ st = stepE T st d (.box t x) := by simp [stepA, isEff]
theorem stepA_store (T : Tab) (all : Array Oper) (d : Option Nat) (t : TypeId) (x y : Operand) (ty : TypeId) (pos : String) (aft : Array Edge) (st : St) : stepA T all ⟨d, .store t x y, ty, pos, aft, none⟩ st = stepE T st d (.store t x y) := by simp [stepA, isEff]
theorem stepA_make (T : Tab) (all : Array Oper) (d : Option Nat) (t : TypeId) (x y : Operand) (ty : TypeId) (pos : String) (aft : Array Edge) (st : St) : stepA T all ⟨d, .makeSlice t x y, ty, pos, aft, none⟩ st = stepE T st d (.makeSlice t x y) := by simp [stepA, isEff]
theorem stepA_bs (T : Tab) (all : Array Oper) (d : Option Nat) (t : TypeId) (n : Nat) (x : Array (Nat × Operand)) (ty : TypeId) (pos : String) (aft : Array Edge) (st : St) : stepA T all ⟨d, .buildSlice t n x, ty, pos, aft, none⟩ st = stepE T st d (.buildSlice t n x) := by simp [stepA, isEff]
theorem stepA_app (T : Tab) (all : Array Oper) (d : Option Nat) (x : Array Operand) (t : Array TypeId) (ty : TypeId) (pos : String) (aft : Array Edge) (st : St) : stepA T all ⟨d, .call ⟨.builtin .append, x, t⟩, ty, pos, aft, none⟩ st = stepE T st d (.call ⟨.builtin .append, x, t⟩) := by simp [stepA, isEff]

theorem shlOk_one (b : Int) : shlOk .i64 1 b = (decide (0 ≤ b) && decide (b ≤ 62)) := by
  rw [Bool.eq_iff_iff]
  simp only [shlOk, Bool.and_eq_true, decide_eq_true_eq, inb, lo, hi, IntKind.bits, Int.one_mul]
  constructor
  · rintro ⟨⟨h1, h2, h3⟩, h4⟩
    refine ⟨h1, ?_⟩
    rcases Int.lt_or_le 62 b with q | q
    · exfalso
      have : (2 : Int) ^ 63 ≤ 2 ^ b.toNat := by exact_mod_cast Nat.pow_le_pow_right (show 0 < 2 by omega) (show 63 ≤ b.toNat by omega)
      omega
    · exact q
  · rintro ⟨h1, h2⟩
    have h3 : (2 : Int) ^ b.toNat ≤ 2 ^ 62 := by exact_mod_cast Nat.pow_le_pow_right (show 0 < 2 by omega) (show b.toNat ≤ 62 by omega)
    have h4 : (0 : Int) < 2 ^ b.toNat := Int.pow_pos (by omega)
    exact ⟨⟨h1, by omega, by omega⟩, by simp; omega⟩
theorem beq_ff (b : Bool) : (b == false) = !b := by cases b <;> rfl
theorem beq_tt (b : Bool) : (b == true) = b := by cases b <;> rfl
theorem not_or_s (b : Bool) : (!b || b) = true := by cases b <;> rfl
theorem or_not_s (b : Bool) : (b || !b) = true := by cases b <;> rfl
theorem and_s (b : Bool) : (b && b) = b := by cases b <;> rfl
theorem sc_bool (pc b : Bool) : sc pc (.bool b) = true := rfl
theorem sc_int (pc : Bool) (k : IntKind) (n : Int) : sc pc (.int k n) = true := rfl
theorem inb_i64 (n : Int) : inb .i64 n = (decide (-9223372036854775808 ≤ n) && decide (n ≤ 9223372036854775807)) := rfl
theorem inb_u64 (n : Int) : inb .u64 n = (decide (0 ≤ n) && decide (n ≤ 18446744073709551615)) := rfl
theorem inb_u8 (n : Int) : inb .u8 n = (decide (0 ≤ n) && decide (n ≤ 255)) := rfl
theorem inb_u32 (n : Int) : inb .u32 n = (decide (0 ≤ n) && decide (n ≤ 4294967295)) := rfl
theorem inb_i32 (n : Int) : inb .i32 n = (decide (-2147483648 ≤ n) && decide (n ≤ 2147483647)) := rfl
theorem cond_tt (a b : Bool) : (bif a then true else b) = (a || b) := by cases a <;> rfl
theorem cond_ff (a b : Bool) : (bif a then b else false) = (a && b) := by cases a <;> rfl
theorem bits_i64 : IntKind.bits .i64 = 64 := rfl
theorem bits_u64 : IntKind.bits .u64 = 64 := rfl


theorem intEs_len (k : IntKind) (xs : List Int) : (intEs k xs).length = xs.length := by simp [intEs]
theorem iand_bd {a b : Int} (ha : 0 ≤ a) (hb : 0 ≤ b) : 0 ≤ iand a b ∧ iand a b ≤ a ∧ iand a b ≤ b := by
  obtain ⟨x, rfl⟩ := Int.eq_ofNat_of_zero_le ha
  obtain ⟨y, rfl⟩ := Int.eq_ofNat_of_zero_le hb
  rw [iand_nn]
  have h1 := Nat.and_le_left (n := x) (m := y)
  have h2 := Nat.and_le_right (n := x) (m := y)
  omega
theorem tmod_two (a : Nat) : (a : Int).tmod 2 = ((a % 2 : Nat) : Int) := (Int.ofNat_tmod a 2).symm
theorem take_app {α : Type} (xs ys : List α) (m : Nat) : List.take (xs.length + m) (xs ++ ys) = xs ++ List.take m ys := by rw [List.take_append, List.take_of_length_le (by omega), Nat.add_sub_cancel_left]
theorem oneCell_int (k : IntKind) (n : Int) : (Value.int k n).oneCell' = true := rfl
theorem oneCell_bool (b : Bool) : (Value.bool b).oneCell' = true := rfl
theorem oneCell_str (b : ByteArray) : (Value.string b).oneCell' = true := rfl
theorem oneCell_slice (a : Option Addr) (b c : Nat) : (Value.slice a b c).oneCell' = true := rfl
/-- A list run, and what is kept of the slots. -/
def runK (T : Tab) (K : List Nat) (all : Array Oper) (l : List Oper) (st : St) : Bool × St := match runL T all l st with | (c, ⟨n, s, h⟩) => (c, ⟨n, keepL K s, h⟩)
def runPK (T : Tab) (K : List Nat) (all : Array Oper) (l : List Oper) (st : St) : Bool × St := match runP T all l st with | (c, ⟨n, s, h⟩) => (c, ⟨n, keepL K s, h⟩)

section
variable {P : Program} {T : Tab} {w0 : World}
theorem AWP_rg (hT : TabOk P T) (K : List Nat) {id : Nat} {l : List Oper} {Q : Exit → St → Prop} {st : St} (h : ∀ c st', runK T K l.toArray l st = (c, st') → c = true ∧ Q .normal st') : AWP P w0 (.region id l.toArray false) Q st := by
  obtain ⟨h1, h2⟩ := h _ _ rfl
  refine AWP_region ?_
  have := AWPL_runL (P := P) (w0 := w0) (all := l.toArray) (Q := Q) (rest := []) hT (l := l) (st := st) h1 fun F φ a w hr => AWPL_nil (P := P) (w0 := w0) h2 F φ a w (hr.keep K)
  simpa using this
theorem AWP_rgs (hT : TabOk P T) (K : List Nat) {id : Nat} {l : List Oper} {y : Code} {Q : Exit → St → Prop} {st : St} (h : ∀ c st', runK T K l.toArray l st = (c, st') → c = true ∧ AWP P w0 y Q st') : AWP P w0 (.seq (.region id l.toArray false) y) Q st :=
  AWP_seq (AWP_rg hT K h)
theorem AWP_dr (hT : TabOk P T) (K : List Nat) {id : Nat} {l : List Oper} {Q : Exit → St → Prop} {st : St} (hm : P.follows .mixedOrders = true) (hB : Region.lexB .any l.toArray = true) (h : ∀ c st', runPK T K l.toArray l st = (c, st') → c = true ∧ Q .normal st') : AWP P w0 (.region id l.toArray true) Q st := by
  refine AWP_draw hT K hm hB fun c st' hr => ?_
  have hr' : runP T l.toArray l st = (c, st') := by simpa using hr
  exact h c ⟨st'.n, keepL K st'.s, st'.h⟩ (by simp [runPK, hr'])
theorem AWP_drs (hT : TabOk P T) (K : List Nat) {id : Nat} {l : List Oper} {y : Code} {Q : Exit → St → Prop} {st : St} (hm : P.follows .mixedOrders = true) (hB : Region.lexB .any l.toArray = true) (h : ∀ c st', runPK T K l.toArray l st = (c, st') → c = true ∧ AWP P w0 y Q st') : AWP P w0 (.seq (.region id l.toArray true) y) Q st :=
  AWP_seq (AWP_dr hT K hm hB h)
/-- A drawn region whose last operations stand behind all others: the first n, then the rest. -/
theorem AWP_dt (hT : TabOk P T) (n : Nat) (K : List Nat) {id : Nat} {l : List Oper} {Q : Exit → St → Prop} {st : St} (hm : P.follows .mixedOrders = true) (hB : Region.lexTailB .any l.toArray n = true)
    (h : ∀ c st', (match runP T l.toArray (l.take n) st with | (c, s1) => match runK T K l.toArray (l.drop n) s1 with | (c2, s2) => (c && c2, s2)) = (c, st') → c = true ∧ Q .normal st') : AWP P w0 (.region id l.toArray true) Q st := by
  refine AWP_drawTail hT n hm hB fun c st' hr => ?_
  obtain ⟨h1, h2⟩ := h _ _ rfl
  rw [hr] at h1 h2
  simp only [Bool.and_eq_true] at h1
  refine ⟨h1.1, ?_⟩
  have := AWPL_runL (P := P) (w0 := w0) (all := l.toArray) (Q := Q) (rest := []) hT (l := l.drop n) (st := st') h1.2 fun F φ a w hr => AWPL_nil (P := P) (w0 := w0) h2 F φ a w (hr.keep K)
  simpa using this
theorem AWP_dts (hT : TabOk P T) (n : Nat) (K : List Nat) {id : Nat} {l : List Oper} {y : Code} {Q : Exit → St → Prop} {st : St} (hm : P.follows .mixedOrders = true) (hB : Region.lexTailB .any l.toArray n = true)
    (h : ∀ c st', (match runP T l.toArray (l.take n) st with | (c, s1) => match runK T K l.toArray (l.drop n) s1 with | (c2, s2) => (c && c2, s2)) = (c, st') → c = true ∧ AWP P w0 y Q st') : AWP P w0 (.seq (.region id l.toArray true) y) Q st :=
  AWP_seq (AWP_dt hT n K hm hB h)

/-- A region with calls: its list, piece by piece. -/
theorem AWP_rl {id : Nat} {l : List Oper} {Q : Exit → St → Prop} {st : St} (h : AWPL P w0 l.toArray Q l st) : AWP P w0 (.region id l.toArray false) Q st := AWP_region (by simpa using h)
theorem AWP_rls {id : Nat} {l : List Oper} {y : Code} {Q : Exit → St → Prop} {st : St} (h : AWPL P w0 l.toArray (thenC P w0 y Q) l st) : AWP P w0 (.seq (.region id l.toArray false) y) Q st := AWP_seq (AWP_rl h)
theorem AWPL_rn (hT : TabOk P T) (n : Nat) (K : List Nat) {all : Array Oper} {Q : Exit → St → Prop} {l : List Oper} {st : St}
    (h : ∀ c st', runK T K all (l.take n) st = (c, st') → c = true ∧ AWPL P w0 all Q (l.drop n) st') : AWPL P w0 all Q l st := by
  obtain ⟨h1, h2⟩ := h _ _ rfl
  rw [← List.take_append_drop n l]
  exact AWPL_runL hT h1 fun F φ a w hr => h2 F φ a w (hr.keep K)

/-- A call, the state behind it written out, some slots kept. -/
theorem AWPL_callK (K : List Nat) {st : St} {all : Array Oper} {Q : Exit → St → Prop} {rest : List Oper} {o : Oper} {fo : Operand} {args : Array Operand} {tys : Array TypeId} {d f : Nat} {caps ys : List AVal} {r : AVal} {H : List Blk}
    (hP : Pure P f ys r H) (hop : o.op = .call ⟨.value fo, args, tys⟩) (hdst : o.dst = some d) (hpc : pcOf all st.s o.guard = (true, true)) (hf : opd st.s fo = .func f caps) (hcall : ∀ args w, (callFunc f args).run P w = .ok (.enter f args) w)
    (hargs : ArgsOk st.h ((args.toList.map fun x => sv (opd st.s x)) ++ caps) ys) (hsc : (args.toList.all fun x => sc true (opd st.s x)) = true) (hd : d < st.n) (hr : nI r = true) (hH : H.all nIB = true)
    (h : ∀ st', (⟨st.n, keepL K (putL st.s d (sh st.h.length r)), st.h ++ H.map fun b => some (shB st.h.length b)⟩ : St) = st' → AWPL P w0 all Q rest st') : AWPL P w0 all Q (o :: rest) st :=
  AWPL_call hop hdst hpc hf hcall hP hargs hsc hd hr hH fun F φ a w hrel => h _ rfl F φ a w (hrel.keep K)
theorem AWPL_skipK (K : List Nat) {st : St} {all : Array Oper} {Q : Exit → St → Prop} {rest : List Oper} {o : Oper} {d : Nat} (hdst : o.dst = some d) (hpc : pcOf all st.s o.guard = (true, false)) (hd : d < st.n)
    (h : ∀ st', (⟨st.n, keepL K (putL st.s d (.opt false .junk)), st.h⟩ : St) = st' → AWPL P w0 all Q rest st') : AWPL P w0 all Q (o :: rest) st :=
  AWPL_skip hdst hpc hd fun F φ a w hrel => h _ rfl F φ a w (hrel.keep K)
theorem Rel.reslot {F : Fz} {φ : Phi} {st : St} {a : Act} {w : World} (h : Rel F φ w0 st a w) {s' : List (Nat × AVal)} (hs : ∀ (i : Nat) (v : Value), RepV F φ (look st.s i) v → RepV F φ (look s' i) v) : Rel F φ w0 { st with s := s' } a w :=
  ⟨h.heap, h.size, fun i => hs i _ (h.slots i), h.defers, h.below⟩
/-- A call under a guard that the state leaves open. -/
theorem AWPL_callG (K : List Nat) (g : Bool) {st : St} {all : Array Oper} {Q : Exit → St → Prop} {rest : List Oper} {o : Oper} {fo : Operand} {args : Array Operand} {tys : Array TypeId} {d f : Nat} {caps ys : List AVal} {r : AVal}
    (hP : Pure P f ys r []) (hop : o.op = .call ⟨.value fo, args, tys⟩) (hdst : o.dst = some d) (hpc : pcOf all st.s o.guard = (true, g)) (hf : opd st.s fo = .func f caps) (hcall : ∀ args w, (callFunc f args).run P w = .ok (.enter f args) w)
    (hargs : ArgsOk st.h ((args.toList.map fun x => sv (opd st.s x)) ++ caps) ys) (hsc : g = true → (args.toList.all fun x => sc true (opd st.s x)) = true) (hd : d < st.n) (hr : nI r = true) (hsh : sh st.h.length r = r)
    (h : ∀ st', (⟨st.n, keepL K (putL st.s d (.opt g r)), st.h⟩ : St) = st' → AWPL P w0 all Q rest st') : AWPL P w0 all Q (o :: rest) st := by
  have step : ∀ (x : AVal) (F : Fz) (φ : Phi) (a : Act) (w : World), Rel F φ w0 ⟨st.n, putL st.s d x, st.h⟩ a w → (∀ v, RepV F φ x v → RepV F φ (.opt g r) v) → Rel F φ w0 ⟨st.n, keepL K (putL st.s d (.opt g r)), st.h⟩ a w := by
    intro x F φ a w hrel hx
    refine (Rel.keep (Rel.reslot hrel (s' := putL st.s d (.opt g r)) fun i v hv => ?_) K)
    simp only [look_putL] at hv ⊢
    split
    · rename_i e; rw [if_pos e] at hv; exact hx v hv
    · rename_i e; rw [if_neg e] at hv; exact hv
  cases g with
  | true =>
    refine AWPL_call hop hdst hpc hf hcall hP hargs (hsc rfl) hd hr rfl fun F φ a w hrel => ?_
    refine h _ rfl F φ a w (step (sh st.h.length r) F φ a w (by simpa using hrel) fun v hv => ?_)
    rw [hsh] at hv
    exact .opt _ _ _ (fun _ => hv) (fun h => nomatch h)
  | false =>
    refine AWPL_skip hdst hpc hd fun F φ a w hrel => ?_
    refine h _ rfl F φ a w (step (.opt false .junk) F φ a w hrel fun v hv => ?_)
    cases hv with | opt _ _ _ h1 h2 => exact .opt _ _ _ (fun h => nomatch h) h2
theorem inBlockA_exit {id : Nat} {Q : Exit → St → Prop} {st : St} (h : Q .normal st) : inBlockA id Q (.exit id) st := by simpa [inBlockA] using h
theorem inBlockA_ne {id id' : Nat} {Q : Exit → St → Prop} {st : St} (hn : id' ≠ id) (h : Q (.exit id') st) : inBlockA id Q (.exit id') st := by simpa [inBlockA, hn] using h

/-- A slot that holds nil is a new list of the call's own, empty. -/
theorem Rel.nilOwn {F : Fz} {φ : Phi} {st : St} {a : Act} {w : World} (h : Rel F φ w0 st a w) {i : Nat} (hi : look st.s i = .nil) {b : Blk} (hb : b.es = []) :
    Rel F (upd φ st.h.length .nils) w0 { st with s := putL st.s i (.own st.h.length 0), h := st.h ++ [some b] } a w := by
  obtain ⟨h1, h2⟩ := h.heap.adoptL b .nils (.inl ⟨by simp [upd], hb⟩) (fun _ _ _ _ _ _ _ _ _ _ _ => by simp)
  refine ⟨h1, h.size, fun j => ?_, h.defers, h.below⟩
  show RepV F _ (look (putL st.s i (.own st.h.length 0)) j) _
  rw [look_putL]
  split
  · rename_i e; subst e
    have := h.slots i
    rw [hi] at this
    generalize a.tmps.getD i undef = v at this
    cases this
    exact .ownNil _ (by simp [upd])
  · exact (h.slots j).le (FLe.refl F) h2
theorem AWP_own (i : Nat) (b : Blk) {c : Code} {Q : Exit → St → Prop} {st : St} (hb : b.es = []) (hi : look st.s i = .nil) (h : ∀ st', (⟨st.n, putL st.s i (.own st.h.length 0), st.h ++ [some b]⟩ : St) = st' → AWP P w0 c Q st') : AWP P w0 c Q st :=
  fun F φ a w hr => h _ rfl F _ a w (hr.nilOwn hi hb)

/-- The end of a loop's round. -/
def loopC {κ : Type} (S : κ → St) (C : κ → Prop) (μ : κ → Nat) (x : κ) (Q : Exit → St → Prop) : Exit → St → Prop := thenA (fun st' => ∃ x' ρ, C x' ∧ μ x' < μ x ∧ Wk ρ st' (S x')) Q
/-- A loop: its states by a number or what you like, what holds of it, a measure. -/
theorem AWP_loopS {κ : Type} {c : Code} {Q : Exit → St → Prop} {st : St} (S : κ → St) (C : κ → Prop) (μ : κ → Nat) (x0 : κ) (ρ : List Nat) (h0 : C x0) (hw : Wk ρ st (S x0))
    (round : ∀ x, C x → AWP P w0 c (loopC S C μ x Q) (S x)) : AWP P w0 (.loop c) Q st := by
  refine AWP_wk ρ hw ?_
  intro F φ a w hr
  exact wp_loop_ghost (fun n a w => ∃ x F' φ', C x ∧ μ x = n ∧ FLe F F' ∧ Rel F' φ' w0 (S x) a w) (μ x0) ⟨x0, F, φ, h0, rfl, FLe.refl F, hr⟩ fun n a w ⟨x, F', φ', hC, hm, f, r⟩ => by
    refine wp_mono (round x hC F' φ' a w r) fun e a' w' hq => ?_
    obtain ⟨st', F2, φ2, q, f2, r2⟩ := hq
    cases e with
    | normal =>
      obtain ⟨x', ρ', hC', hlt, hwk⟩ := q
      exact ⟨μ x', by omega, x', F2, _, hC', rfl, f.trans f2, r2.wk hwk⟩
    | _ => exact ⟨st', F2, φ2, q, f.trans f2, r2⟩
/-- The next state. -/
theorem loop_again {κ : Type} {S : κ → St} {C : κ → Prop} {μ : κ → Nat} {x : κ} {Q : Exit → St → Prop} {st' : St} (x' : κ) (ρ : List Nat) (hC : C x') (hm : μ x' < μ x) (hw : Wk ρ st' (S x')) :
    loopC S C μ x Q .normal st' := ⟨x', ρ, hC, hm, hw⟩
theorem loopC_exit {κ : Type} {S : κ → St} {C : κ → Prop} {μ : κ → Nat} {x : κ} {Q : Exit → St → Prop} {id : Nat} {st' : St} (h : Q (.exit id) st') : loopC S C μ x Q (.exit id) st' := h
theorem loopC_ret {κ : Type} {S : κ → St} {C : κ → Prop} {μ : κ → Nat} {x : κ} {Q : Exit → St → Prop} {st' : St} (h : Q .ret st') : loopC S C μ x Q .ret st' := h

/-- What is known of a value because it is one. -/
def fact0 : AVal → Prop
  | .int k n => lo k ≤ n ∧ n ≤ hi k
  | .ints k xs => xs.length ≤ maxLen ∧ ∀ x ∈ xs, lo k ≤ x ∧ x ≤ hi k
  | .str s => s.length ≤ maxLen
  | .intp k n => lo k ≤ n ∧ n ≤ hi k
  | _ => True
def factL0 : List AVal → Prop
  | [] => True
  | x :: r => fact0 x ∧ factL0 r
def fact1 : AVal → Prop
  | .agg l => factL0 l
  | .imm sz es => es.length ≤ maxLen ∧ ∀ e ∈ es, e.length = sz ∧ factL0 e
  | .immp es => factL0 es
  | .fn sz n f => n ≤ maxLen ∧ ∀ i, i < n → factL0 (f i)
  | x => fact0 x
def factL1 : List AVal → Prop
  | [] => True
  | x :: r => fact1 x ∧ factL1 r

theorem fact0_rep {F : Fz} {φ : Phi} {x : AVal} {v : Value} (h : RepV F φ x v) : fact0 x := by
  cases x <;> simp only [fact0]
  case int => exact (int_inv h).2
  case str => cases h with | str _ _ h1 h2 => exact h2
  case intp => cases h with | intp _ _ _ h => cases h with | immp _ ad u h1 h2 => exact (int_inv (h2 0 _ rfl)).2
  case ints k xs =>
    cases h with | ints _ _ _ h => cases h with | imm _ _ A n c u h1 h2 h3 h4 h5 h6 h7 =>
      refine ⟨by simp [intEs] at h1; omega, fun x hx => ?_⟩
      obtain ⟨i, hi, rfl⟩ := List.getElem_of_mem hx
      have := h7 i [.int k xs[i]] 0 (.int k xs[i]) (by simp [intEs, hi]) rfl
      exact (int_inv this).2
theorem factL0_of {l : List AVal} (h : ∀ (i : Nat) (x : AVal), l[i]? = some x → fact0 x) : factL0 l := by
  induction l with
  | nil => trivial
  | cons x r ih => exact ⟨h 0 x rfl, ih fun i y hy => h (i + 1) y (by simpa using hy)⟩
theorem fact1_rep {F : Fz} {φ : Phi} {x : AVal} {v : Value} (h : RepV F φ x v) : fact1 x := by
  cases x
  case agg l =>
    cases h with | agg _ vs hl h1 h2 =>
      refine factL0_of fun i x hx => ?_
      have hi : i < l.length := by
        rcases Nat.lt_or_ge i l.length with q | q
        · exact q
        · rw [List.getElem?_eq_none q] at hx; cases hx
      exact fact0_rep (h2 i x _ hx (Array.getElem?_eq_getElem (show i < vs.size by omega)))
  case imm sz es =>
    cases h with | imm _ _ A n c u h1 h2 h3 h4 h5 h6 h7 =>
      refine ⟨by omega, fun e he => ?_⟩
      obtain ⟨i, hi, rfl⟩ := List.getElem_of_mem he
      have hq := List.getElem?_eq_getElem hi
      exact ⟨h4 i _ hq, factL0_of fun j x hx => fact0_rep (h7 i _ j x hq hx)⟩
  case immp es =>
    cases h with | immp _ ad u h1 h2 =>
      exact factL0_of fun i x hx => fact0_rep (h2 i x hx)
  case fn sz m f =>
    cases h with | fn _ _ _ _ h => cases h with | imm _ _ A n c u h1 h2 h3 h4 h5 h6 h7 =>
      refine ⟨by simp [fnEs] at h1; omega, fun i hi => ?_⟩
      have hq : (fnEs m f)[i]? = some (f i) := by simp [fnEs, hi]
      exact factL0_of fun j x hx => fact0_rep (h7 i _ j x hq hx)
  all_goals exact fact0_rep h
theorem factL1_of {l : List AVal} (h : ∀ (i : Nat) (x : AVal), l[i]? = some x → fact1 x) : factL1 l := by
  induction l with
  | nil => trivial
  | cons x r ih => exact ⟨h 0 x rfl, ih fun i y hy => h (i + 1) y (by simpa using hy)⟩

theorem Pure_introF (hT : TabOk P T) {f : FuncId} {fn : Func} {c : Code} {n : Nat} {l : List ResultVar} {args : List AVal} {r : AVal} {H : List Blk} (hf : P.funcs[f]? = some fn) (hb : fn.body = some c) (hn : fn.ntmps = n) (hl : fn.results = l.toArray)
    (hle : args.length ≤ n) (h : factL1 args → ∀ w0, AWP P w0 c (Ends T l r H) ⟨n, enumA 0 args, []⟩) : Pure P f args r H := by
  intro w F vs hag hlen hargs
  refine Pure_intro hT hf hb hn hl hle (h (factL1_of fun i x hx => ?_)) w F vs hag hlen hargs
  have hi : i < vs.size := by
    rw [← hlen]
    rcases Nat.lt_or_ge i args.length with q | q
    · exact q
    · rw [List.getElem?_eq_none q] at hx; cases hx
  exact fact1_rep (hargs i x _ hx (Array.getElem?_eq_getElem hi))

/-- An end without blocks. -/
theorem Ends0 {l : List ResultVar} {r x : AVal} {e : Exit} {st : St} (he : e = .ret ∨ e = .normal) (h : resA T st l = (true, x)) (hx : ren [] r = x) (hb : st.h.length ≤ bigId) : Ends T l r [] e st :=
  ⟨he, by rw [h], [], by rw [h]; exact hx.symm, ⟨rfl, hb, List.nodup_nil, rfl, trivial, trivial⟩⟩
/-- An end with one new block. -/
theorem Ends1 {l : List ResultVar} {r x : AVal} {b : Blk} {e : Exit} {st : St} (k : Nat) (he : e = .ret ∨ e = .normal) (h : resA T st l = (true, x)) (hx : ren [k] r = x) (hb : st.h.length ≤ bigId) (hk : st.h[k]? = some (some (renB [k] b))) : Ends T l r [b] e st :=
  ⟨he, by rw [h], [k], by rw [h]; exact hx.symm, ⟨rfl, hb, by simp, rfl, trivial, ⟨by simpa [renI] using hk, trivial⟩⟩⟩
theorem EndsR0 {l : List ResultVar} {r : AVal} {e : Exit} {st : St} (he : e = .ret ∨ e = .normal) (hb : st.h.length ≤ bigId) (h : ∀ c x, resA T st l = (c, x) → c = true ∧ ren [] r = x) : Ends T l r [] e st := by
  obtain ⟨h1, h2⟩ := h _ _ rfl
  exact Ends0 he (x := (resA T st l).2) (Prod.ext h1 rfl) h2 hb
theorem EndsR1 (k : Nat) {l : List ResultVar} {r : AVal} {b : Blk} {e : Exit} {st : St} (he : e = .ret ∨ e = .normal) (hb : st.h.length ≤ bigId) (h : ∀ c x q, resA T st l = (c, x) → st.h[k]? = q → c = true ∧ ren [k] r = x ∧ some (some (renB [k] b)) = q) : Ends T l r [b] e st := by
  obtain ⟨h1, h2, h3⟩ := h _ _ _ rfl rfl
  exact Ends1 k he (x := (resA T st l).2) (Prod.ext h1 rfl) h2 hb h3.symm
end

attribute [go_sem] stepA_build buildA fillA setAt tmod_two Option.getD_some take_app oneCell_int oneCell_bool oneCell_str oneCell_slice List.range_zero eq_self intEs_len Nat.le_refl and_true true_and List.take_length List.length_append shlOk_one beq_ff beq_tt not_or_s or_not_s and_s Bool.not_not Int.one_mul sh sh1 sh0 shB ren ren1 ren0 renI renB runL_nil runL_cons runP_nil runP_cons stepP_none stepP_some stepA_move stepA_assign stepA_pick stepA_bin stepA_un stepA_conv stepA_ext stepA_idxa stepA_idx stepA_load stepA_field stepA_fa stepA_mf stepA_slice stepA_len stepA_max stepA_min stepA_alloc stepA_box stepA_store stepA_make stepA_bs stepA_app inb_i64 inb_u64 inb_u8 inb_u32 inb_i32 cond_tt cond_ff bits_i64 bits_u64 runK runPK keepL pv opd look putL absV sv sc isB bv bin3 bin2 un1 hdA ldC getB idxA loadA fieldA fieldAddrA
  lenTy lenA extA strA bndA sliceA maxA isAggT known stepE zv okInt okZero zeroA zeroB blk0 blk1 one1 cellsA storeB killO appB srcA takeB catB emptyB partsB intsOf rowsOf pcOf gslot enumA resV resA Blk.et Blk.sz Blk.es
  byteStr List.take_succ_cons List.take_zero List.drop_succ_cons List.drop_zero List.take_nil List.drop_nil Bool.true_and Bool.and_true Bool.false_and Bool.and_false Bool.not_true Bool.not_false Bool.true_or Bool.or_true Bool.false_or Bool.or_false cond_true cond_false decide_true decide_false
  List.contains_cons List.contains_nil List.getElem?_toArray List.getElem?_cons_succ List.getElem?_cons_zero Option.bind_some Option.map_some Option.map_none Option.all_some Option.all_none List.map_cons List.map_nil List.all_cons List.all_nil List.length_cons List.length_nil
  List.cons_append List.nil_append List.append_nil List.set_cons_zero List.set_cons_succ List.getD_cons_zero List.getD_cons_succ List.size_toArray if_true if_false beq_self_eq_true Nat.zero_add Nat.add_zero Int.toNat_natCast Int.natCast_nonneg Int.toNat_zero

end Go.AX
