/-
  'pv': an operation that touches no memory, on abstract values: what it asks, what it yields; and that the model's run yields just this. Conditions: the table of types is the program's.
-/
import Derived.Test.YtcjhpcbipcdhiaaAxC
import Derived.Laws.BytesArg
import Derived.Below
set_option linter.unusedSimpArgs false
set_option linter.unusedVariables false
namespace Go.AX
open Go Go.RowKit

def isB : AVal → Bool | .bool _ => true | _ => false
def bv : AVal → Bool | .bool b => b | _ => false

def bin3 (d : TyD) (op : BinOp) (x y : AVal) : Bool × AVal :=
  match x, y with
  | .bool a, .bool b => match op with
    | .eql => ((match d with | .bool => true | _ => false), .bool (a == b))
    | .neq => ((match d with | .bool => true | _ => false), .bool (!(a == b)))
    | _ => (false, .junk)
  | .str a, .str b => match op with
    | .eql => (true, .bool (decide (a = b)))
    | .neq => (true, .bool (!decide (a = b)))
    | _ => (false, .junk)
  | x, y => bin2 op x y

def un1 (op : UnOp) : AVal → Bool × AVal
  | .int k n => match op with
    | .neg => (inb k (-n), .int k (-n))
    | .xor => (k.signed, .int k (inot n))
    | _ => (false, .junk)
  | .bool b => match op with
    | .not => (true, .bool (!b))
    | _ => (false, .junk)
  | _ => (false, .junk)

def hdA : List AVal → Bool × AVal | x :: _ => (true, x) | [] => (false, .junk)
def ldC (r : TyRow) (e : List AVal) : Bool × AVal :=
  match isAggT r with
  | true => (decide (r.sz ≤ e.length), .agg (e.take r.sz))
  | false => hdA e

def getB (H : List (Option Blk)) (id : Nat) : Option Blk := match H[id]? with | some (some b) => some b | _ => none

def idxA (r : TyRow) (H : List (Option Blk)) (x i : AVal) : Bool × AVal :=
  match x, i with
  | .ints k xs, .int _ i => (decide (r.sz = 1) && (decide (0 ≤ i) && decide (i < xs.length)), .intp k (xs.getD i.toNat 0))
  | .imm sz es, .int _ i => (decide (r.sz = sz) && (decide (0 ≤ i) && decide (i < es.length)), .immp (es.getD i.toNat []))
  | .fn sz n f, .int _ i => (decide (r.sz = sz) && (decide (0 ≤ i) && decide (i < (n : Int))), .immp (f i.toNat))
  | .own id n, .int _ i => (match getB H id with
      | some b => decide (r.sz = b.sz) && (decide (0 ≤ i) && decide (i < n))
      | none => false, .ptr id i.toNat 0)
  | _, _ => (false, .junk)

def loadA (r : TyRow) (H : List (Option Blk)) : AVal → Bool × AVal
  | .intp k n => (!isAggT r, .int k n)
  | .immp e => ldC r e
  | .ptr id i j => match getB H id with
    | some (.ints _ k xs) => (!isAggT r && decide (j = 0) && decide (i < xs.length), .int k (xs.getD i 0))
    | some (.gen _ _ es) => ldC r ((es.getD i []).drop j)
    | none => (false, .junk)
  | _ => (false, .junk)

def fieldA (T : Tab) (d : TyD) (f : Nat) : AVal → Bool × AVal
  | .agg l => match d with
    | .struct fs => match fs[f]? with
      | some (off, ft) => match isAggT (T ft) with
        | true => (known (T ft) && decide (off + (T ft).sz ≤ l.length), .agg ((l.drop off).take (T ft).sz))
        | false => (known (T ft) && decide (off < l.length), l.getD off .junk)
      | none => (false, .junk)
    | _ => (false, .junk)
  | _ => (false, .junk)

def fieldAddrA (T : Tab) (d : TyD) (f : Nat) (x : AVal) : Bool × AVal :=
  match d with
  | .struct fs => match fs[f]? with
    | some (off, ft) => match x with
      | .immp e => (known (T ft) && !decide ((T ft).sz = 0), .immp (e.drop off))
      | .ptr id i j => (known (T ft) && !decide ((T ft).sz = 0), .ptr id i (j + off))
      | _ => (false, .junk)
    | none => (false, .junk)
  | _ => (false, .junk)

def lenA : AVal → Bool × Nat
  | .ints _ xs => (true, xs.length)
  | .imm _ es => (true, es.length)
  | .fn _ n _ => (true, n)
  | .own _ n => (true, n)
  | .nil => (true, 0)
  | .str s => (true, s.length)
  | _ => (false, 0)

def lenTy : TyD → AVal → Bool
  | .slice _, .str _ => false
  | .slice _, _ => true
  | .str, .str _ => true
  | _, _ => false

def extA (i : Nat) : AVal → Bool × AVal
  | .tup l => (decide (i < l.length), l.getD i .junk)
  | _ => (false, .junk)

def strA (x i : AVal) : Bool × AVal :=
  match x, i with
  | .str s, .int _ i => (decide (0 ≤ i) && decide (i < s.length), .int .u8 (s.getD i.toNat 0).toNat)
  | _, _ => (false, .junk)

/-- A bound of a cut: left out: the default. -/
def bndA (d : Nat) : Option AVal → Bool × Nat
  | none => (true, d)
  | some (.int _ i) => (decide (0 ≤ i), i.toNat)
  | some _ => (false, 0)

def sliceA (x : AVal) (lo hi : Option AVal) : Bool × AVal :=
  match x with
  | .ints k xs => ((bndA 0 lo).1 && (bndA xs.length hi).1 && decide ((bndA 0 lo).2 ≤ (bndA xs.length hi).2) && decide ((bndA xs.length hi).2 ≤ xs.length), .ints k ((xs.take (bndA xs.length hi).2).drop (bndA 0 lo).2))
  | .own id n => (match lo with
      | none => (bndA n hi).1 && decide ((bndA n hi).2 ≤ n)
      | some _ => false, .own id (bndA n hi).2)
  | _ => (false, .junk)

def maxA (m : Bool) : List AVal → Bool × Int
  | [.int .i64 a, .int .i64 b] => (true, bif m then max a b else min a b)
  | _ => (false, 0)

/-- string(bytes), the bytes the call's own. -/
def byteStr (T : Tab) (H : List (Option Blk)) (s : TypeId) (x : AVal) : Bool × AVal :=
  match (T s).d with
  | .slice e => match (T e).d with
    | .int .u8 => match x with
      | .nil => (true, .str [])
      | .own id n => match getB H id with
        | some (.ints _ .u8 xs) => (decide (n ≤ xs.length), .str ((xs.take n).map fun n => UInt8.ofNat n.toNat))
        | _ => (false, .junk)
      | _ => (false, .junk)
    | _ => (false, .junk)
  | _ => (false, .junk)

/-- One cell. -/
def one1 : AVal → Bool
  | .int _ _ | .bool _ | .str _ | .nil | .imm _ _ | .immp _ | .own _ _ | .ptr _ _ _ | .func _ _ | .ints _ _ | .intp _ _ | .fn _ _ _ => true
  | _ => false
/-- A value's cells. -/
def cellsA : AVal → Option (List AVal)
  | .agg l => some l
  | x => if one1 x then some [x] else none

def setAt (off : Nat) (l xs : List AVal) : List AVal := l.take off ++ xs ++ l.drop (off + xs.length)
/-- The parts of a literal, put over the zero value's cells. -/
def fillA (T : Tab) (fs : List (Nat × TypeId)) (l : List AVal) : List (Nat × AVal) → Bool × List AVal
  | [] => (true, l)
  | (i, x) :: r => match fs[i]?, cellsA x with
    | some (off, ft), some xs => (decide (xs.length = (T ft).sz) && decide (off + xs.length ≤ l.length) && (fillA T fs (setAt off l xs) r).1, (fillA T fs (setAt off l xs) r).2)
    | _, _ => (false, [])
def buildA (T : Tab) (r : TyRow) (parts : List (Nat × AVal)) : Bool × AVal :=
  match r.d, r.zero with
  | .struct fs, .agg cs => ((fs.all fun x => known (T x.2)) && (cs.toList.all fun x => x.oneCell') && (fillA T fs (cs.toList.map absV) parts).1, .agg (fillA T fs (cs.toList.map absV) parts).2)
  | _, _ => (false, .junk)

def pv (T : Tab) (H : List (Option Blk)) (pc : Bool) (ev : Operand → AVal) : Op → Bool × AVal
  | .move x | .assign x => (sc pc (ev x), sv (ev x))
  | .pick c x y => (sc pc (ev c) && isB (sv (ev c)) && sc (pc && bv (sv (ev c))) (ev x) && isB (sv (ev x)) && sc (pc && !bv (sv (ev c))) (ev y) && isB (sv (ev y)),
      .bool (bif bv (sv (ev c)) then bv (sv (ev x)) else bv (sv (ev y))))
  | .binOp op t x y _ => (sc pc (ev x) && sc pc (ev y) && (!pc || (bin3 (T t).d op (sv (ev x)) (sv (ev y))).1), (bin3 (T t).d op (sv (ev x)) (sv (ev y))).2)
  | .unOp op _ x => (sc pc (ev x) && (!pc || (un1 op (sv (ev x))).1), (un1 op (sv (ev x))).2)
  | .convert s d x => match (T d).d, sv (ev x) with
    | .int k, .int _ n => (sc pc (ev x) && known (T s) && (!pc || inb k n), .int k n)
    | .str, y => (sc pc (ev x) && (!pc || (byteStr T H s y).1), (byteStr T H s y).2)
    | _, _ => (false, .junk)
  | .extract x i => (sc pc (ev x) && (!pc || (extA i (sv (ev x))).1), (extA i (sv (ev x))).2)
  | .indexAddr t x i => match (T t).d with
    | .slice e => (known (T e) && sc pc (ev x) && sc pc (ev i) && (!pc || (idxA (T e) H (sv (ev x)) (sv (ev i))).1), (idxA (T e) H (sv (ev x)) (sv (ev i))).2)
    | _ => (false, .junk)
  | .index t x i => match (T t).d with
    | .str => (sc pc (ev x) && sc pc (ev i) && (!pc || (strA (sv (ev x)) (sv (ev i))).1), (strA (sv (ev x)) (sv (ev i))).2)
    | _ => (false, .junk)
  | .load t x => (known (T t) && sc pc (ev x) && (!pc || (loadA (T t) H (sv (ev x))).1), (loadA (T t) H (sv (ev x))).2)
  | .field t x f => (sc pc (ev x) && (!pc || (fieldA T (T t).d f (sv (ev x))).1), (fieldA T (T t).d f (sv (ev x))).2)
  | .build t ps => ((ps.toList.all fun p => sc pc (ev p.2)) && (!pc || (buildA T (T t) (ps.toList.map fun p => (p.1, sv (ev p.2)))).1), (buildA T (T t) (ps.toList.map fun p => (p.1, sv (ev p.2)))).2)
  | .fieldAddr t x f => (sc pc (ev x) && (!pc || (fieldAddrA T (T t).d f (sv (ev x))).1), (fieldAddrA T (T t).d f (sv (ev x))).2)
  | .makeFunc (.func f) first caps => (decide (first.size = 0) && caps.toList.all fun x => sc pc (ev x), .func f (caps.toList.map fun x => sv (ev x)))
  | .slice t x lo hi none => match (T t).d with
    | .slice e => (known (T e) && (match sv (ev x) with | .ints _ _ => decide ((T e).sz = 1) | _ => true) && sc pc (ev x) && lo.all (fun x => sc pc (ev x)) && hi.all (fun x => sc pc (ev x)) && (!pc || (sliceA (sv (ev x)) (lo.map fun x => sv (ev x)) (hi.map fun x => sv (ev x))).1),
        (sliceA (sv (ev x)) (lo.map fun x => sv (ev x)) (hi.map fun x => sv (ev x))).2)
    | _ => (false, .junk)
  | .call c => match c.callee with
    | .builtin .len => match c.args.toList, c.argTypes.toList with
      | [x], [t] => (lenTy (T t).d (sv (ev x)) && sc pc (ev x) && (!pc || (lenA (sv (ev x))).1), .int .i64 (lenA (sv (ev x))).2)
      | _, _ => (false, .junk)
    | .builtin .max => (c.args.toList.all (fun x => sc pc (ev x)) && (maxA true (c.args.toList.map fun x => sv (ev x))).1, .int .i64 (maxA true (c.args.toList.map fun x => sv (ev x))).2)
    | .builtin .min => (c.args.toList.all (fun x => sc pc (ev x)) && (maxA false (c.args.toList.map fun x => sv (ev x))).1, .int .i64 (maxA false (c.args.toList.map fun x => sv (ev x))).2)
    | _ => (false, .junk)
  | _ => (false, .junk)

section
variable {P : Program} {T : Tab} {F : Fz} {φ : Phi} {w0 : World} {st : St} {a : Act} {w : World}

theorem ev_rep (h : Rel F φ w0 st a w) {x : Operand} (hs : sc true (opd st.s x) = true) : RepV F φ (sv (opd st.s x)) (a.eval x) := sv_rep (opd_rep h x) hs

/-- What is asked of a value: the operation's run. -/
def Yields (P : Program) (F : Fz) (φ : Phi) (w : World) (s : Sem Value) (x : AVal) : Prop := ∃ u, (∀ w', Below w.heap.size w w' → s.run P w' = .ok u w') ∧ RepV F φ x u
theorem RelH.belowR {base : Nat} {H : List (Option Blk)} (h : RelH F φ base H w) {w' : World} (hb : Below w.heap.size w w') : RelH F φ base H w' := by
  have lt : ∀ {b : Nat} {o : Obj}, w.heap[b]? = some o → b < w.heap.size := fun h => (Array.getElem?_eq_some_iff.1 h).1
  refine ⟨fun b o hF => (hb.block b (lt (h.agree b o hF))).trans (h.agree b o hF), h.unused, fun id b hid => ?_, h.inj⟩
  rcases h.blk id b hid with q | ⟨g, cap, cur, q1, q2, q3, q4, q5⟩
  · exact .inl q
  · exact .inr ⟨g, cap, cur, q1, q2, q3, (hb.block g (lt q4)).trans q4, q5⟩

theorem bin2_ok {op : BinOp} {t : TypeId} {x y : AVal} {u v : Value} (hx : RepV F φ x u) (hy : RepV F φ y v) (hc : (bin2 op x y).1 = true) : Yields P F φ w (binOp op t u v) (bin2 op x y).2 := by
  unfold bin2 at hc ⊢
  split at hc
  · rename_i k a k' b
    cases hx with | int _ _ a1 a2 => ?_
    cases hy with | int _ _ b1 b2 => ?_
    cases op <;> simp only [shlOk, Bool.and_eq_true, decide_eq_true_eq, inb_iff] at hc ⊢
    all_goals try (obtain ⟨rfl, hc⟩ := hc)
    · exact ⟨.int k (a + b), fun w _ => by simp [Op.intArith, binOp, wrap_in hc.1 hc.2], .int _ _ hc.1 hc.2⟩
    · exact ⟨.int k (a - b), fun w _ => by simp [Op.intArith, binOp, wrap_in hc.1 hc.2], .int _ _ hc.1 hc.2⟩
    · exact ⟨.int k (a * b), fun w _ => by simp [Op.intArith, binOp, wrap_in hc.1 hc.2], .int _ _ hc.1 hc.2⟩
    · obtain ⟨⟨rfl, hb⟩, hc⟩ := hc
      exact ⟨.int k (a.tdiv b), fun w _ => by simp [Op.intDiv, binOp, hb, wrap_in hc.1 hc.2], .int _ _ hc.1 hc.2⟩
    · have := tmod_in (b := b) a1 a2
      exact ⟨.int k (a.tmod b), fun w _ => by simp [Op.intDiv, binOp, hc], .int _ _ this.1 this.2⟩
    · exact ⟨_, fun w _ => by rw [binOp_and]; exact intBits_eq P w .and k a b (by simp) a1 a2 b1 b2, .int _ _ (bitI_in .and k a b a1 a2 b1 b2).1 (bitI_in .and k a b a1 a2 b1 b2).2⟩
    · exact ⟨_, fun w _ => by rw [binOp_or]; exact intBits_eq P w .or k a b (by simp) a1 a2 b1 b2, .int _ _ (bitI_in .or k a b a1 a2 b1 b2).1 (bitI_in .or k a b a1 a2 b1 b2).2⟩
    · exact ⟨_, fun w _ => by rw [binOp_xor]; exact intBits_eq P w .xor k a b (by simp) a1 a2 b1 b2, .int _ _ (bitI_in .xor k a b a1 a2 b1 b2).1 (bitI_in .xor k a b a1 a2 b1 b2).2⟩
    · obtain ⟨⟨h1, h2⟩, h3⟩ := hc
      exact ⟨.int k (a * 2 ^ b.toNat), fun w _ => by simp [binOp, Op.shift, show ¬ b < 0 by omega, Nat.min_eq_left h3, wrap_in h2.1 h2.2], .int _ _ h2.1 h2.2⟩
    · have := ediv_in a1 a2 b.toNat
      exact ⟨.int k (a / 2 ^ b.toNat), fun w _ => by simp [binOp, Op.shift, show ¬ b < 0 by omega, tdiv_fdiv, shr_min a1 a2], .int _ _ this.1 this.2⟩
    · exact ⟨_, fun w _ => by rw [binOp_andNot]; exact intBits_eq P w .andNot k a b (by simp) a1 a2 b1 b2, .int _ _ (bitI_in .andNot k a b a1 a2 b1 b2).1 (bitI_in .andNot k a b a1 a2 b1 b2).2⟩
    · exact ⟨_, fun w _ => by rw [binOp_eql]; rfl, by rw [show (a == b) = decide (a = b) from rfl]; exact .bool _⟩
    · exact ⟨_, fun w _ => by rw [binOp_neq]; rfl, by rw [show (a != b) = !decide (a = b) from rfl]; exact .bool _⟩
    · exact ⟨_, fun w _ => by rw [binOp_lss]; rfl, .bool _⟩
    · exact ⟨_, fun w _ => by rw [binOp_leq]; rfl, .bool _⟩
    · exact ⟨_, fun w _ => by rw [binOp_gtr]; rfl, .bool _⟩
    · exact ⟨_, fun w _ => by rw [binOp_geq]; rfl, .bool _⟩
  · cases hc

theorem eqt_bytes (s : ByteArray) : s.toList = s.data.toList := ByteArray.toList_eq s
theorem run_equalIn_bool (d : Nat) {t : TypeId} (b c : Bool) (h : P.underlying t = some .bool) : (Op.equalIn (d + 1) t (.bool b) (.bool c)).run P w = .ok (b == c) w := by
  simp [Op.equalIn, run_underlying h]
theorem run_eql_bool {t : TypeId} (b c : Bool) (h : P.underlying t = some .bool) : (binOp .eql t (.bool b) (.bool c)).run P w = .ok (.bool (b == c)) w := by
  simp only [binOp]
  simp [Op.equal, Op.maxDepth, run_equalIn_bool 9999 b c h]
theorem run_neq_bool {t : TypeId} (b c : Bool) (h : P.underlying t = some .bool) : (binOp .neq t (.bool b) (.bool c)).run P w = .ok (.bool (!(b == c))) w := by
  simp only [binOp]
  simp [Op.equal, Op.maxDepth, run_equalIn_bool 9999 b c h]

theorem bin3_ok (hT : TabOk P T) {op : BinOp} {t : TypeId} {x y : AVal} {u v : Value} (hx : RepV F φ x u) (hy : RepV F φ y v) (hc : (bin3 (T t).d op x y).1 = true) : Yields P F φ w (binOp op t u v) (bin3 (T t).d op x y).2 := by
  unfold bin3 at hc ⊢
  split at hc
  · rename_i b c
    cases hx; cases hy
    have hd : ∀ {q : Bool}, (match (T t).d with | .bool => true | _ => false) = q → q = true → P.underlying t = some .bool := by
      intro q h1 h2; subst h2
      split at h1
      · rename_i hd; exact bool_under hT hd
      · cases h1
    cases op <;> simp only [Bool.false_eq_true] at hc ⊢
    · exact ⟨.bool (b == c), fun w _ => run_eql_bool b c (hd rfl hc), .bool _⟩
    · exact ⟨.bool (!(b == c)), fun w _ => run_neq_bool b c (hd rfl hc), .bool _⟩
  · rename_i b c
    cases hx with | str s1 _ h1 _ => ?_
    cases hy with | str s2 _ h2 _ => ?_
    subst h1 h2
    have e : (s1.data.toList == s2.data.toList) = decide (s1.data.toList = s2.data.toList) := by rw [Bool.eq_iff_iff]; simp
    cases op <;> simp only [Bool.false_eq_true] at hc ⊢
    · exact ⟨.bool (decide (s1.data.toList = s2.data.toList)), fun w _ => by simp only [binOp, Op.stringOp, eqt_bytes, Sem.run_pure, e], .bool _⟩
    · exact ⟨.bool (!decide (s1.data.toList = s2.data.toList)), fun w _ => by simp only [binOp, Op.stringOp, eqt_bytes, Sem.run_pure, e], .bool _⟩
  · exact bin2_ok hx hy hc

theorem un1_ok {op : UnOp} {x : AVal} {u : Value} (hx : RepV F φ x u) (hc : (un1 op x).1 = true) : Yields P F φ w (Op.unary op u) (un1 op x).2 := by
  unfold un1 at hc ⊢
  split at hc
  · rename_i k n
    cases hx with | int _ _ a1 a2 => ?_
    cases op <;> simp only [Bool.false_eq_true, inb_iff] at hc ⊢
    · exact ⟨.int k (-n), fun w _ => by simp [Op.unary, Op.intArith, wrap_in hc.1 hc.2], .int _ _ hc.1 hc.2⟩
    · have hk : lo k ≤ -1 ∧ -1 ≤ hi k := by cases k <;> simp [lo, hi, IntKind.signed] at *
      have h2 := bitI_in .xor k (-1) n hk.1 hk.2 a1 a2
      have e : bitI .xor (-1) n = inot n := by
        show ior (iand (-1) (inot n)) (iand n (inot (-1))) = _
        have e1 : ∀ m : Int, iand (-1) m = m := fun m => by
          cases m with
          | ofNat a => show Int.ofNat (a ^^^ (0 &&& a)) = _; simp
          | negSucc a => show Int.negSucc (0 ||| a) = _; simp
        have e2 : ∀ m : Int, iand m 0 = 0 := fun m => by
          cases m with
          | ofNat a => show Int.ofNat (a &&& 0) = _; simp
          | negSucc a => show Int.ofNat (0 ^^^ (a &&& 0)) = _; simp
        have e3 : ∀ m : Int, ior m 0 = m := fun m => by
          show inot (iand (inot m) (-1)) = m
          have e4 : ∀ m : Int, iand m (-1) = m := fun m => by
            cases m with
            | ofNat a => show Int.ofNat (a ^^^ (a &&& 0)) = _; simp
            | negSucc a => show Int.negSucc (a ||| 0) = _; simp
          rw [e4]; unfold inot; omega
        rw [e1, show inot (-1) = 0 from rfl, e2, e3]
      have h1 := fun w => intBits_eq P w .xor k (-1) n (by simp) hk.1 hk.2 a1 a2
      simp only [e] at h1 h2
      exact ⟨.int k (inot n), fun w _ => by simp only [Op.unary, hc, if_true]; exact h1 w, .int _ _ h2.1 h2.2⟩
  · cases hx
    cases op <;> simp only [Bool.false_eq_true] at hc ⊢
    exact ⟨_, fun w _ => by simp [Op.unary], .bool _⟩
  · cases hc

theorem int_inv {k : IntKind} {n : Int} {v : Value} (h : RepV F φ (.int k n) v) : v = .int k n ∧ lo k ≤ n ∧ n ≤ hi k := by cases h with | int _ _ a b => exact ⟨rfl, a, b⟩
theorem bool_inv {b : Bool} {v : Value} (h : RepV F φ (.bool b) v) : v = .bool b := by cases h; rfl

theorem idx_run {t e : TypeId} (hT : TabOk P T) (hd : (T t).d = .slice e) (hk : known (T e) = true) (ad : Addr) (n c : Nat) (k : IntKind) (i : Int) (h0 : 0 ≤ i) (h1 : i < n) (w : World) :
    (Instr.indexAt t (.slice (some ad) n c) (.int k i)).run P w = .ok (.pointer (some (ad.add (i.toNat * (T e).sz)))) w := by
  simp [Instr.indexAt, run_underlying (slice_under hT hd), asIntOf, h0, h1, size_run hT hk]

theorem imm_idx {sz : Nat} {es : List (List AVal)} {v : Value} (h : RepV F φ (.imm sz es) v) {i : Int} (h0 : 0 ≤ i) (h1 : i < es.length) :
    ∃ ad c, v = .slice (some ad) es.length c ∧ RepV F φ (.immp (es.getD i.toNat [])) (.pointer (some (ad.add (i.toNat * sz)))) := by
  cases h with
  | imm _ _ A n c u e1 e2 e3 e4 e5 e6 e7 =>
    subst e1
    have hi : i.toNat < es.length := by omega
    cases A with
    | none => exact absurd rfl (e5 (by omega))
    | some ad =>
      refine ⟨ad, c, rfl, ?_⟩
      have hg : es[i.toNat]? = some (es.getD i.toNat []) := by rw [List.getD_eq_getElem?_getD, List.getElem?_eq_getElem hi]; rfl
      refine .immp _ _ (fun j => u i.toNat j) (fun j x hx => ?_) (fun j x hx => e7 _ _ j x hg hx)
      have := e6 ad i.toNat _ j x rfl hg hx
      have e : (ad.add (i.toNat * sz)).add j = ad.add (i.toNat * sz + j) := by
        unfold Addr.add
        by_cases ha : i.toNat * sz = 0 <;> by_cases hb : j = 0 <;> simp [ha, hb, Nat.add_assoc]
      rw [e]; exact this

theorem idxA_ok {t e : TypeId} (hT : TabOk P T) (h : RelH F φ w0.heap.size st.h w) (hd : (T t).d = .slice e) (hk : known (T e) = true) {x i : AVal} {u v : Value} (hx : RepV F φ x u) (hi : RepV F φ i v)
    (hc : (idxA (T e) st.h x i).1 = true) : Yields P F φ w (Instr.indexAt t u v) (idxA (T e) st.h x i).2 := by
  unfold idxA at hc ⊢
  split at hc
  · rename_i k xs k' i
    simp only [Bool.and_eq_true, decide_eq_true_eq] at hc
    obtain ⟨hs, h0, h1⟩ := hc
    obtain ⟨rfl, _⟩ := int_inv hi
    cases hx with | ints _ _ _ hx => ?_
    obtain ⟨ad, c, rfl, hr⟩ := imm_idx hx h0 (by simpa [intEs] using h1)
    have hlt : i.toNat < xs.length := by omega
    refine ⟨_, fun w _ => by rw [idx_run hT hd hk _ _ _ _ _ h0 (by simpa [intEs] using h1)], ?_⟩
    rw [hs]
    have : (intEs k xs).getD i.toNat [] = [.int k (xs.getD i.toNat 0)] := by
      simp [intEs, List.getD_eq_getElem?_getD, List.getElem?_eq_getElem hlt]
    rw [this] at hr
    exact .intp _ _ _ hr
  · rename_i sz es k' i
    simp only [Bool.and_eq_true, decide_eq_true_eq] at hc
    obtain ⟨hs, h0, h1⟩ := hc
    obtain ⟨rfl, _⟩ := int_inv hi
    obtain ⟨ad, c, rfl, hr⟩ := imm_idx hx h0 h1
    exact ⟨_, fun w _ => by rw [idx_run hT hd hk _ _ _ _ _ h0 h1], by rw [hs]; exact hr⟩
  · rename_i sz n f k' i
    simp only [Bool.and_eq_true, decide_eq_true_eq] at hc
    obtain ⟨hs, h0, h1⟩ := hc
    obtain ⟨rfl, _⟩ := int_inv hi
    cases hx with | fn _ _ _ _ hx => ?_
    obtain ⟨ad, c, rfl, hr⟩ := imm_idx hx h0 (by simpa [fnEs] using h1)
    have hlt : i.toNat < n := by omega
    refine ⟨_, fun w _ => by rw [idx_run hT hd hk _ _ _ _ _ h0 (by simpa [fnEs] using h1)], ?_⟩
    rw [hs]
    have : (fnEs n f).getD i.toNat [] = f i.toNat := by simp [fnEs, List.getD_eq_getElem?_getD, hlt]
    rw [this] at hr
    exact hr
  · rename_i id n k' i
    split at hc
    · rename_i b hb
      simp only [Bool.and_eq_true, decide_eq_true_eq] at hc
      obtain ⟨hs, h0, h1⟩ := hc
      obtain ⟨rfl, _⟩ := int_inv hi
      cases hx with
      | own _ _ g cap sz et h2 h3 _ =>
        have hb' : st.h[id]? = some (some b) := by
          unfold getB at hb
          split at hb
          · rename_i b' hb'; rw [hb']; simpa using hb
          · cases hb
        rcases h.blk id b hb' with ⟨h4, _⟩ | ⟨g', cap', cur, h4, _⟩
        · rw [h2] at h4; cases h4
        · rw [h2] at h4
          injection h4 with e1 e2 e3 e4
          refine ⟨_, fun w _ => by rw [idx_run hT hd hk _ _ _ _ _ h0 h1], ?_⟩
          have : (⟨g, 0, none⟩ : Addr).add (i.toNat * (T e).sz) = ⟨g, i.toNat * sz + 0, none⟩ := by rw [Addr.add_lit, hs, e3]; simp
          rw [this]
          exact .ptr id i.toNat 0 g cap sz et h2
      | ownNil _ h2 => omega
    · cases hc
  · cases hc

theorem getB_some {H : List (Option Blk)} {id : Nat} {b : Blk} (hb : getB H id = some b) : H[id]? = some (some b) := by
  unfold getB at hb
  split at hb
  · rename_i b' hb'; rw [hb']; simpa using hb
  · cases hb

/-- The cells from an address on: so many, as said. -/
theorem ldC_ok {t : TypeId} (hT : TabOk P T) (hk : known (T t) = true) {e : List AVal} {ad : Addr} {u : Nat → Value} (hc : (ldC (T t) e).1 = true)
    (h : ∀ w', Below w.heap.size w w' → ∀ (j : Nat) (x : AVal), e[j]? = some x → w'.cell? (ad.add j) = some (u j) ∧ (u j).oneCell' = true) (hr : ∀ (j : Nat) (x : AVal), e[j]? = some x → RepV F φ x (u j)) :
    Yields P F φ w (loadVar t ad) (ldC (T t) e).2 := by
  obtain ⟨_, hag⟩ := known_run hT hk
  unfold ldC at hc ⊢
  cases hA : isAggT (T t) with
  | true =>
    rw [hA] at hc
    simp only [decide_eq_true_eq] at hc ⊢
    refine ⟨.agg ((List.range (T t).sz).map u).toArray, fun w hw => ?_, ?_⟩
    · have hl := run_loadCells (P := P) w ad (T t).sz u (fun j hj => (h w hw j _ (List.getElem?_eq_getElem (by omega))).1)
      simp [loadVar, hag, hA, size_run hT hk, hl]
    · refine .agg _ _ (by simp; omega) (fun i v hv => ?_) (fun i x v hx hv => ?_)
      · simp only [List.getElem?_toArray, List.getElem?_map] at hv
        have hi : i < (T t).sz := by
          rcases Nat.lt_or_ge i (T t).sz with h | h
          · exact h
          · rw [List.getElem?_eq_none (by simpa using h)] at hv; cases hv
        rw [List.getElem?_range hi] at hv
        simp at hv; subst hv
        exact (h w (Below.refl _ _) i _ (List.getElem?_eq_getElem (by omega))).2
      · have hi : i < (T t).sz := by
          rcases Nat.lt_or_ge i (T t).sz with h | h
          · exact h
          · rw [List.getElem?_eq_none (by simp; omega)] at hx; cases hx
        rw [List.getElem?_take, if_pos hi] at hx
        simp only [List.getElem?_toArray, List.getElem?_map, List.getElem?_range hi] at hv
        simp at hv; subst hv
        exact hr i x hx
  | false =>
    rw [hA] at hc
    simp only at hc ⊢
    match e, hc with
    | x :: r, _ =>
      refine ⟨u 0, fun w hw => ?_, hr 0 x rfl⟩
      have h0 := h w hw 0 x rfl
      have : w.cell? ad = some (u 0) := by simpa [Addr.add] using h0.1
      simp [loadVar, hag, hA, load, Sem.run, this]

theorem load_ok {t : TypeId} (hT : TabOk P T) (h : RelH F φ w0.heap.size st.h w) (hk : known (T t) = true) {x : AVal} {u : Value} (hx : RepV F φ x u)
    (hc : (loadA (T t) st.h x).1 = true) : Yields P F φ w (Instr.loadAt t u) (loadA (T t) st.h x).2 := by
  have key : ∀ {e : List AVal} {v : Value}, RepV F φ (.immp e) v → (ldC (T t) e).1 = true → Yields P F φ w (Instr.loadAt t v) (ldC (T t) e).2 := by
    intro e v hv hc
    cases hv with
    | immp _ ad u h1 h2 =>
      obtain ⟨y, hy, hr⟩ := ldC_ok hT hk (w := w) hc (fun w' hw' j x hx => ⟨agree_cell (h.belowR hw') (h1 j x hx).1, (h1 j x hx).2⟩) h2
      exact ⟨y, fun w hw => by simpa [Instr.loadAt, Instr.sureAddr] using hy w hw, hr.le (FLe.refl F) (PLe0 φ)⟩
  have blk : ∀ {id i j : Nat} {b : Blk} {v : Value}, RepV F φ (.ptr id i j) v → getB st.h id = some b → (ldC (T t) ((b.es.getD i []).drop j)).1 = true → Yields P F φ w (Instr.loadAt t v) (ldC (T t) ((b.es.getD i []).drop j)).2 := by
    intro id i j b v hv hb hc
    cases hv with
    | ptr _ _ _ g cap sz et h1 =>
      rcases h.blk id b (getB_some hb) with ⟨h4, _⟩ | ⟨g', cap', cur, h4, _, _, hh, _, _, _, hes⟩
      · rw [h1] at h4; cases h4
      · rw [h1] at h4
        injection h4 with e1 e2 e3 e4
        subst e1 e2 e3 e4
        have hcell : ∀ w', Below w.heap.size w w' → ∀ m, w'.cell? ((⟨g, i * b.sz + j, none⟩ : Addr).add m) = cur[i * b.sz + j + m]? := fun w' hw' m => by rw [Addr.add_lit, cell_of_row w' g _ cur b.et (0, 0) ((hw'.block g (Array.getElem?_eq_some_iff.1 hh).1).trans hh)]
        obtain ⟨y, hy, hr⟩ := ldC_ok hT hk (w := w) (ad := ⟨g, i * b.sz + j, none⟩) (u := fun m => (cur[i * b.sz + j + m]?).getD undef) hc (fun w' hw' m x hx => by
          rw [List.getElem?_drop] at hx
          cases hes' : b.es[i]? with
          | none => rw [List.getD_eq_getElem?_getD, hes'] at hx; simp at hx
          | some e =>
            rw [List.getD_eq_getElem?_getD, hes'] at hx
            obtain ⟨u, hu, _, h1⟩ := (hes i e hes').2 (j + m) x hx
            rw [← Nat.add_assoc] at hu
            rw [hcell w' hw', hu]
            exact ⟨rfl, h1⟩) (fun m x hx => by
          rw [List.getElem?_drop] at hx
          cases hes' : b.es[i]? with
          | none => rw [List.getD_eq_getElem?_getD, hes'] at hx; simp at hx
          | some e =>
            rw [List.getD_eq_getElem?_getD, hes'] at hx
            obtain ⟨u, hu, hr, h1⟩ := (hes i e hes').2 (j + m) x hx
            rw [← Nat.add_assoc] at hu
            rw [hu]
            exact hr)
        exact ⟨y, fun w hw => by simpa [Instr.loadAt, Instr.sureAddr] using hy w hw, hr⟩
  unfold loadA at hc ⊢
  split at hc
  · rename_i k n
    simp only [Bool.not_eq_true'] at hc
    cases hx with | intp _ _ _ hx => ?_
    have e : ldC (T t) [AVal.int k n] = (true, .int k n) := by simp [ldC, hc, hdA]
    have := key hx (by rw [e])
    rwa [e] at this
  · exact key hx hc
  · rename_i id i j
    split at hc
    · rename_i et k xs hb
      simp only [Bool.and_eq_true, decide_eq_true_eq, Bool.not_eq_true'] at hc
      obtain ⟨⟨h1, rfl⟩, h3⟩ := hc
      have e : ldC (T t) ((Blk.es (.ints et k xs)).getD i [] |>.drop 0) = (true, .int k (xs.getD i 0)) := by
        simp [ldC, h1, hdA, Blk.es, intEs, List.getD_eq_getElem?_getD, List.getElem?_eq_getElem h3]
      have := blk hx hb (by rw [e])
      rwa [e] at this
    · rename_i et sz es hb
      exact blk hx hb hc
    · cases hc
  · cases hc

theorem field_ok {t : TypeId} (hT : TabOk P T) {f : Nat} {x : AVal} {u : Value} (hx : RepV F φ x u) (hc : (fieldA T (T t).d f x).1 = true) : Yields P F φ w (Instr.field t u f) (fieldA T (T t).d f x).2 := by
  unfold fieldA at hc ⊢
  split at hc
  · rename_i l
    cases hx with | agg _ vs hl h1 hr => ?_
    split at hc
    · rename_i fs hd
      obtain ⟨fields, hu, hf⟩ := struct_under hT hd
      split at hc
      · rename_i off ft hft
        have hfield : ∃ g, fields[f]? = some g ∧ g.offset = off ∧ g.type = ft := by
          rw [← hf, List.getElem?_map, Array.getElem?_toList] at hft
          cases hg : fields[f]? with
          | none => rw [hg] at hft; simp at hft
          | some g => rw [hg] at hft; simp at hft; exact ⟨g, rfl, hft.1, hft.2⟩
        obtain ⟨g, hg, rfl, rfl⟩ := hfield
        split at hc
        · rename_i hA
          simp only [Bool.and_eq_true, decide_eq_true_eq] at hc
          obtain ⟨hk, hlen⟩ := hc
          obtain ⟨_, hag⟩ := known_run hT hk
          refine ⟨.agg (vs.extract g.offset (g.offset + (T g.type).sz)), fun w _ => by simp [Instr.field, run_underlying hu, hg, part, hag, hA, asAgg, size_run hT hk], .agg _ _ ?_ (fun i v hv => ?_) (fun i x v hx hv => ?_)⟩
          · simp only [List.length_take, List.length_drop, Array.size_extract]; omega
          · rw [Array.getElem?_extract] at hv
            split at hv
            · exact h1 _ v hv
            · cases hv
          · rw [Array.getElem?_extract] at hv
            rw [List.getElem?_take] at hx
            split at hv
            · split at hx
              · rw [List.getElem?_drop] at hx; exact hr _ x v hx hv
              · cases hx
            · cases hv
        · rename_i hA
          simp only [Bool.and_eq_true, decide_eq_true_eq] at hc
          obtain ⟨hk, hlen⟩ := hc
          obtain ⟨_, hag⟩ := known_run hT hk
          have hx := List.getElem?_eq_getElem hlen
          have hv : vs[g.offset]? = some (vs[g.offset]'(by omega)) := Array.getElem?_eq_getElem (by omega)
          refine ⟨vs[g.offset]'(by omega), fun w _ => by simp [Instr.field, run_underlying hu, hg, part, hag, hA, asAgg, hv], ?_⟩
          rw [List.getD_eq_getElem?_getD, hx]
          exact hr _ _ _ hx hv
      · cases hc
    · cases hc
  · cases hc

theorem fieldAddr_ok {t : TypeId} (hT : TabOk P T) {f : Nat} {x : AVal} {u : Value} (hx : RepV F φ x u) (hc : (fieldAddrA T (T t).d f x).1 = true) : Yields P F φ w (Instr.fieldAt t u f) (fieldAddrA T (T t).d f x).2 := by
  unfold fieldAddrA at hc ⊢
  split at hc
  · rename_i fs hd
    obtain ⟨fields, hu, hf⟩ := struct_under hT hd
    split at hc
    · rename_i off ft hft
      have hfield : ∃ g, fields[f]? = some g ∧ g.offset = off ∧ g.type = ft := by
        rw [← hf, List.getElem?_map, Array.getElem?_toList] at hft
        cases hg : fields[f]? with
        | none => rw [hg] at hft; simp at hft
        | some g => rw [hg] at hft; simp at hft; exact ⟨g, rfl, hft.1, hft.2⟩
      obtain ⟨g, hg, rfl, rfl⟩ := hfield
      split at hc
      · rename_i e
        simp only [Bool.and_eq_true, Bool.not_eq_true', decide_eq_false_iff_not] at hc
        obtain ⟨hk, hz⟩ := hc
        cases hx with | immp _ ad u h1 h2 => ?_
        refine ⟨.pointer (some (ad.add g.offset)), fun w _ => by simp [Instr.fieldAt, run_underlying hu, hg, Instr.sureAddr, fieldPlace, size_run hT hk, hz], .immp _ _ (fun j => u (g.offset + j)) (fun j x hx => ?_) (fun j x hx => ?_)⟩
        · rw [List.getElem?_drop] at hx
          have := h1 _ x hx
          have e : (ad.add g.offset).add j = ad.add (g.offset + j) := by
            unfold Addr.add
            by_cases ha : g.offset = 0 <;> by_cases hb : j = 0 <;> simp [ha, hb, Nat.add_assoc]
          rw [e]; exact this
        · rw [List.getElem?_drop] at hx; exact h2 _ x hx
      · rename_i id i j
        simp only [Bool.and_eq_true, Bool.not_eq_true', decide_eq_false_iff_not] at hc
        obtain ⟨hk, hz⟩ := hc
        cases hx with | ptr _ _ _ b cap sz et h1 => ?_
        refine ⟨.pointer (some ((⟨b, i * sz + j, none⟩ : Addr).add g.offset)), fun w _ => by simp [Instr.fieldAt, run_underlying hu, hg, Instr.sureAddr, fieldPlace, size_run hT hk, hz], ?_⟩
        rw [Addr.add_lit, Nat.add_assoc]
        exact .ptr id i (j + g.offset) b cap sz et h1
      · cases hc
    · cases hc
  · cases hc

theorem ext_ok {i : Nat} {x : AVal} {u : Value} (hx : RepV F φ x u) (hc : (extA i x).1 = true) : Yields P F φ w (Instr.extract u i) (extA i x).2 := by
  unfold extA at hc ⊢
  split at hc
  · rename_i l
    simp only [decide_eq_true_eq] at hc
    cases hx with | tup _ vs hl hr => ?_
    have hx := List.getElem?_eq_getElem hc
    have hv : vs[i]? = some (vs[i]'(by omega)) := Array.getElem?_eq_getElem (by omega)
    refine ⟨vs[i]'(by omega), fun w _ => by simp [Instr.extract, hv], ?_⟩
    simp only [List.getD_eq_getElem?_getD, hx]
    exact hr _ _ _ hx hv
  · cases hc

theorem str_ok {t : TypeId} (hT : TabOk P T) (hd : (T t).d = .str) {x i : AVal} {u v : Value} (hx : RepV F φ x u) (hi : RepV F φ i v) (hc : (strA x i).1 = true) : Yields P F φ w (Instr.index t u v) (strA x i).2 := by
  unfold strA at hc ⊢
  split at hc
  · rename_i s k i
    simp only [Bool.and_eq_true, decide_eq_true_eq] at hc
    obtain ⟨h0, h1⟩ := hc
    obtain ⟨rfl, _⟩ := int_inv hi
    cases hx with | str s _ hs _ => ?_
    subst hs
    have hlt : i.toNat < s.data.size := by simpa using (show i.toNat < s.data.toList.length by omega)
    have hg : s[i.toNat]? = some (s.data[i.toNat]'hlt) := by
      show (if h : i.toNat < s.size then some (s[i.toNat]) else none) = _
      exact dif_pos (c := i.toNat < s.size) hlt
    refine ⟨.int .u8 (s.data[i.toNat]'hlt).toNat, fun w _ => by simp [Instr.index, run_underlying (str_under hT hd), asIntOf, h0, hg], ?_⟩
    have : s.data.toList.getD i.toNat 0 = s.data[i.toNat]'hlt := by
      rw [List.getD_eq_getElem?_getD, Array.getElem?_toList, Array.getElem?_eq_getElem hlt]; rfl
    rw [this]
    have := (s.data[i.toNat]'hlt).toNat_lt
    exact .int _ _ (by simp [AX.lo]) (by simp [AX.hi]; omega)
  · cases hc

theorem len_ok {t ty : TypeId} (hT : TabOk P T) {x : AVal} {u : Value} (hx : RepV F φ x u) (hd : lenTy (T t).d x = true) (hc : (lenA x).1 = true) :
    (Builtin.len_ #[t] ty #[u]).run P w = .ok (.int .i64 (lenA x).2) w ∧ (lenA x).2 ≤ maxLen := by
  have slice : ∀ {e : TypeId} {a : Option Addr} {n c : Nat}, (T t).d = .slice e → (Builtin.len_ #[t] ty #[.slice a n c]).run P w = .ok (.int .i64 n) w := fun hd => by
    simp [Builtin.len_, run_underlying (slice_under hT hd), goInt]
  unfold lenTy at hd
  split at hd
  · cases hd
  · rename_i e hd' hne
    cases hx with
    | ints k xs v h =>
      cases h with
      | imm _ _ A n c u e1 e2 e3 e4 e5 e6 e7 =>
        subst e1
        exact ⟨by rw [slice hd']; simp [lenA, intEs], by simp only [lenA]; simp only [intEs, List.length_map] at e2; omega⟩
    | fn sz m f v h =>
      cases h with
      | imm _ _ A n c u e1 e2 e3 e4 e5 e6 e7 =>
        subst e1
        exact ⟨by rw [slice hd']; simp [lenA, fnEs], by simp only [lenA]; simp only [fnEs, List.length_map, List.length_range] at e2; omega⟩
    | imm sz es A n c u e1 e2 e3 e4 e5 e6 e7 => subst e1; exact ⟨slice hd', by simp only [lenA]; omega⟩
    | own id n g cap sz et h1 h2 h3 => exact ⟨slice hd', by simp only [lenA]; omega⟩
    | ownNil id h => exact ⟨slice hd', by simp [lenA]⟩
    | nil => exact ⟨slice hd', by simp [lenA]⟩
    | str s l h h' => exact (hne l rfl).elim
    | _ => simp [lenA] at hc
  · rename_i l hd'
    cases hx with | str s _ h h' => ?_
    subst h
    exact ⟨by simp [Builtin.len_, run_underlying (str_under hT hd'), goInt, lenA], h'⟩
  · cases hd

theorem drop_imm {k : IntKind} {xs : List Int} {v : Value} (hx : RepV F φ (.ints k xs) v) {l h : Nat} (h1 : l ≤ h) (h2 : h ≤ xs.length) :
    ∃ A n c, v = .slice A n c ∧ n = xs.length ∧ n ≤ c ∧ RepV F φ (.ints k ((xs.take h).drop l)) (.slice (if c = l then A else A.map (·.add (l * 1))) (h - l) (c - l)) := by
  cases hx with | ints _ _ _ hx => ?_
  cases hx with
  | imm _ _ A n c u e1 e2 e3 e4 e5 e6 e7 =>
    have hn : n = xs.length := by simpa [intEs] using e1
    subst hn
    refine ⟨A, _, c, rfl, rfl, e2, .ints _ _ _ (.imm 1 _ _ _ _ (fun i j => u (i + l) j) (by simp [intEs]; omega) (by omega) (by omega) (fun i e he => ?_) (fun hp => ?_) (fun ad i e j x hA hi hj => ?_) (fun i e j x hi hj => ?_))⟩
    · simp only [intEs, List.getElem?_map, Option.map_eq_some_iff] at he
      obtain ⟨x, _, rfl⟩ := he; rfl
    · rw [if_neg (by omega)]
      cases A with
      | none => exact absurd rfl (e5 (by omega))
      | some a => simp
    · have hil : i + l < h := by
        rcases Nat.lt_or_ge (i + l) h with q | q
        · exact q
        · rw [intEs, List.getElem?_map, List.getElem?_eq_none (by simp; omega)] at hi; cases hi
      rw [if_neg (by omega)] at hA
      cases A with
      | none => cases hA
      | some a =>
        simp at hA; subst hA
        have hi' : (intEs k xs)[i + l]? = some e := by
          simp only [intEs, List.getElem?_map, List.getElem?_drop, List.getElem?_take, Nat.add_comm l i, if_pos hil] at hi ⊢; exact hi
        have := e6 a (i + l) e j x rfl hi' hj
        have e : (a.add l).add (i * 1 + j) = a.add ((i + l) * 1 + j) := by
          unfold Addr.add
          by_cases ha : l = 0
          · subst ha; simp
          · by_cases hb : i * 1 + j = 0
            · have : i = 0 ∧ j = 0 := by omega
              simp [this.1, this.2, ha]
            · rw [if_neg ha, if_neg hb, if_neg (by omega)]; simp; omega
        rw [e]; exact this
    · have hil : i + l < h := by
        rcases Nat.lt_or_ge (i + l) h with q | q
        · exact q
        · rw [intEs, List.getElem?_map, List.getElem?_eq_none (by simp; omega)] at hi; cases hi
      refine e7 (i + l) e j x ?_ hj
      simp only [intEs, List.getElem?_map, List.getElem?_drop, List.getElem?_take, Nat.add_comm l i, if_pos hil] at hi ⊢; exact hi

/-- A bound, as the model has it. -/
inductive Bnd : Option AVal → Option Value → Prop
  | none : Bnd none none
  | some (k : IntKind) (i : Int) : Bnd (some (.int k i)) (some (.int k i))

theorem bnd_of {x : Option AVal} {v : Option Value} (hx : ∀ y, x = some y → ∃ u, v = some u ∧ RepV F φ y u) (h0 : x = none → v = none) {d : Nat} (hc : (bndA d x).1 = true) : Bnd x v := by
  cases x with
  | none => rw [h0 rfl]; exact .none
  | some q =>
    obtain ⟨u, rfl, hr⟩ := hx q rfl
    cases hr <;> simp only [bndA, Bool.false_eq_true] at hc
    exact .some _ _

theorem run_sl {t e : TypeId} (hT : TabOk P T) (hd : (T t).d = .slice e) (hk : known (T e) = true) {A : Option Addr} {n c : Nat} {lo hi : Option AVal} {vl vh : Option Value} (bl : Bnd lo vl) (bh : Bnd hi vh)
    (h1 : (bndA 0 lo).1 = true) (h2 : (bndA n hi).1 = true) (h3 : (bndA 0 lo).2 ≤ (bndA n hi).2) (h4 : (bndA n hi).2 ≤ c) :
    (Instr.sliceAt t (.slice A n c) vl vh none).run P w = .ok (.slice (if c = (bndA 0 lo).2 then A else A.map (·.add ((bndA 0 lo).2 * (T e).sz))) ((bndA n hi).2 - (bndA 0 lo).2) (c - (bndA 0 lo).2)) w := by
  have hu := run_underlying (slice_under hT hd)
  have hz := size_run hT hk
  cases bl with
  | none =>
    cases bh with
    | none => simp [Instr.sliceAt, Instr.slice, hu, Instr.sliceBounds, hz, bndA]
    | some k j =>
      simp only [bndA, decide_eq_true_eq] at h2 h4
      have : j ≤ (c : Int) := by omega
      simp [Instr.sliceAt, Instr.slice, hu, Instr.sliceBounds, Instr.sliceBound, asIntOf, hz, bndA, h2, this]
  | some k' i =>
    simp only [bndA, decide_eq_true_eq] at h1 h3
    cases bh with
    | none =>
      simp only [bndA] at h3 h4
      have : i ≤ (n : Int) := by omega
      simp [Instr.sliceAt, Instr.slice, hu, Instr.sliceBounds, Instr.sliceBound, asIntOf, hz, bndA, h1, this]
    | some k j =>
      simp only [bndA, decide_eq_true_eq] at h2 h3 h4
      have q1 : j ≤ (c : Int) := by omega
      have q2 : i ≤ (j.toNat : Int) := by omega
      have q3 : ¬ max j 0 < i := by omega
      simp [Instr.sliceAt, Instr.slice, hu, Instr.sliceBounds, Instr.sliceBound, asIntOf, hz, bndA, h1, h2, q1, q3]

theorem slice_ok {t e : TypeId} (hT : TabOk P T) (hd : (T t).d = .slice e) (hk : known (T e) = true) {x : AVal} {u : Value} {lo hi : Option AVal} {vl vh : Option Value} (hx : RepV F φ x u)
    (hs : ∀ k xs, x = .ints k xs → (T e).sz = 1)
    (hl : ∀ y, lo = some y → ∃ u, vl = some u ∧ RepV F φ y u) (hl0 : lo = none → vl = none) (hh : ∀ y, hi = some y → ∃ u, vh = some u ∧ RepV F φ y u) (hh0 : hi = none → vh = none)
    (hc : (sliceA x lo hi).1 = true) : Yields P F φ w (Instr.sliceAt t u vl vh none) (sliceA x lo hi).2 := by
  unfold sliceA at hc ⊢
  split at hc
  · rename_i k xs
    simp only [Bool.and_eq_true, decide_eq_true_eq] at hc
    obtain ⟨⟨⟨h1, h2⟩, h3⟩, h4⟩ := hc
    obtain ⟨A, n, c, rfl, rfl, hnc, hr⟩ := drop_imm hx h3 h4
    refine ⟨_, fun w _ => run_sl hT hd hk (bnd_of hl hl0 h1) (bnd_of hh hh0 h2) h1 h2 h3 (by omega), ?_⟩
    rw [hs k xs rfl]
    exact hr
  · rename_i id n
    split at hc
    · simp only [Bool.and_eq_true, decide_eq_true_eq] at hc
      obtain ⟨h2, h4⟩ := hc
      have b0 := bnd_of hl hl0 (d := 0) rfl
      cases hx with
      | own _ _ g cap sz et q1 q2 q3 =>
        have := fun w => run_sl (w := w) (A := some ⟨g, 0, none⟩) (n := n) (c := cap) hT hd hk b0 (bnd_of hh hh0 h2) rfl h2 (Nat.zero_le _) (by omega)
        refine ⟨_, fun w _ => this w, ?_⟩
        simp only [show (bndA 0 (none : Option AVal)).2 = 0 from rfl, Nat.sub_zero, Nat.zero_mul, Addr.add_zero', Option.map_some, ite_self]
        exact .own _ _ g cap sz et q1 (by omega) q3
      | ownNil _ q1 =>
        have := fun w => run_sl (w := w) (A := none) (n := 0) (c := 0) hT hd hk b0 (bnd_of hh hh0 h2) rfl h2 (Nat.zero_le _) (by omega)
        refine ⟨_, fun w _ => this w, ?_⟩
        have e0 : (bndA 0 hi).2 = 0 := by omega
        simp only [show (bndA 0 (none : Option AVal)).2 = 0 from rfl, Nat.sub_zero, Option.map_none, ite_self, e0]
        exact .ownNil _ q1
    · cases hc
  · cases hc

theorem max_ok {ts : Array TypeId} {ty : TypeId} {l : List AVal} {vs : List Value} (hl : l.length = vs.length) (hr : ∀ (i : Nat) (x : AVal) (v : Value), l[i]? = some x → vs[i]? = some v → RepV F φ x v) (m : Bool) (hc : (maxA m l).1 = true) :
    Yields P F φ w (bif m then Builtin.max_ ts ty vs.toArray else Builtin.min_ ts ty vs.toArray) (.int .i64 (maxA m l).2) := by
  unfold maxA at hc ⊢
  split at hc
  · rename_i a b
    match vs, hl with
    | [u, v], _ =>
      obtain ⟨rfl, a1, a2⟩ := int_inv (hr 0 _ _ rfl rfl)
      obtain ⟨rfl, b1, b2⟩ := int_inv (hr 1 _ _ rfl rfl)
      cases m
      · refine ⟨.int .i64 (min a b), fun w _ => ?_, .int _ _ (by simp only [cond_false]; omega) (by simp only [cond_false]; omega)⟩
        simp only [cond_false, Builtin.min_, List.foldlM_cons, List.foldlM_nil, Builtin.min2]
        have : (if b < a then b else a) = min a b := by split <;> omega
        simp [this]
      · refine ⟨.int .i64 (max a b), fun w _ => ?_, .int _ _ (by simp only [cond_true]; omega) (by simp only [cond_true]; omega)⟩
        simp only [cond_true, Builtin.max_, List.foldlM_cons, List.foldlM_nil, Builtin.max2]
        have : (if a < b then b else a) = max a b := by split <;> omega
        simp [this]
  · cases hc


theorem val_of {o : Oper} {s : Sem Value} {x : AVal} (he : execOp a.eval o = (do pure (Next.value (← s)))) (h : Yields P F φ w s x) : ∃ u, (∀ w', Below w.heap.size w w' → (execOp a.eval o).run P w' = .ok (.value u) w') ∧ RepV F φ x u := by
  obtain ⟨u, hu, hr⟩ := h
  exact ⟨u, fun w' hw' => by rw [he]; simp [hu w' hw'], hr⟩

theorem byteStr_ok (hT : TabOk P T) (h : RelH F φ w0.heap.size st.h w) {s d : TypeId} (hd : (T d).d = .str) {x : AVal} {u : Value} (hx : RepV F φ x u) (hc : (byteStr T st.h s x).1 = true) : Yields P F φ w (convert s d u) (byteStr T st.h s x).2 := by
  unfold byteStr at hc ⊢
  split at hc
  · rename_i e hs
    split at hc
    · rename_i he
      split at hc
      · cases hx
        exact ⟨_, fun w _ => run_convert_bytes_nil w s e (slice_under hT hs) (int_under hT he) 0 0 d (str_under hT hd), .str _ _ rfl (by simp)⟩
      · rename_i id n
        split at hc
        · rename_i et xs hb
          simp only [decide_eq_true_eq] at hc
          cases hx with
          | ownNil _ q => exact ⟨_, fun w _ => run_convert_bytes_nil w s e (slice_under hT hs) (int_under hT he) 0 0 d (str_under hT hd), .str _ _ (by simp) (by simp)⟩
          | own _ _ g cap sz et' q1 q2 q3 =>
            rcases h.blk id _ (getB_some hb) with ⟨p, _⟩ | ⟨g', cap', cur, p, p1, p2, p3, p4, p5, p6, p7⟩
            · rw [q1] at p; cases p
            rw [q1] at p
            injection p with e1 e2 e3 e4
            subst e1 e2
            refine ⟨_, fun w' hw' => run_convert_bytes_arg w' s e (slice_under hT hs) (int_under hT he) g 0 n cap (xs.take n) (by simp; omega) (fun i hi => ?_) d (str_under hT hd), .str _ _ rfl (by simp; omega)⟩
            have hi' : i < xs.length := by omega
            obtain ⟨u, u1, u2, _⟩ := (p7 i [.int .u8 xs[i]] (by simp [Blk.es, intEs, hi'])).2 0 _ rfl
            obtain ⟨rfl, _⟩ := int_inv u2
            have hsz : Blk.sz (.ints et .u8 xs) = 1 := rfl
            rw [hsz, Nat.mul_one, Nat.add_zero] at u1
            rw [cell_of_row w' g (0 + i) cur _ (0, 0) ((hw'.block g (Array.getElem?_eq_some_iff.1 p3).1).trans p3), Nat.zero_add, u1]
            simp [List.getD_eq_getElem?_getD, List.getElem?_take, hi, hi']
        · cases hc
      · cases hc
    · cases hc
  · cases hc

theorem isB_inv {x : AVal} {v : Value} (hr : RepV F φ x v) (hb : isB x = true) : v = .bool (bv x) := by
  cases x <;> simp only [isB, Bool.false_eq_true] at hb
  exact bool_inv hr

/-- Cells of one value, as they stand in a new variable. -/
theorem agg_cells {l : List AVal} {v : Value} (hr : RepV F φ (.agg l) v) : ∃ vs : Array Value, v = .agg vs ∧ vs.size = l.length ∧ ∀ (j : Nat) (x : AVal), l[j]? = some x → ∃ u, vs[j]? = some u ∧ RepV F φ x u ∧ u.oneCell' = true := by
  cases hr with | agg _ vs hl h1 h2 => ?_
  refine ⟨vs, rfl, hl.symm, fun j x hx => ?_⟩
  have hj : j < l.length := by
    rcases Nat.lt_or_ge j l.length with q | q
    · exact q
    · rw [List.getElem?_eq_none q] at hx; cases hx
  have hv : vs[j]? = some (vs[j]'(by omega)) := Array.getElem?_eq_getElem (by omega)
  exact ⟨_, hv, h2 j x _ hx hv, h1 j _ hv⟩

theorem one_cell {x : AVal} {v : Value} (hr : RepV F φ x v) (h1 : one1 x = true) : v.oneCell' = true ∧ v.cells = #[v] := by
  cases x <;> simp only [one1, Bool.false_eq_true] at h1
  case ints => cases hr with | ints _ _ _ hr => cases hr; exact ⟨rfl, rfl⟩
  case intp => cases hr with | intp _ _ _ hr => cases hr; exact ⟨rfl, rfl⟩
  case fn => cases hr with | fn _ _ _ _ hr => cases hr; exact ⟨rfl, rfl⟩
  all_goals (cases hr <;> exact ⟨rfl, rfl⟩)

theorem cells_rep {x : AVal} {v : Value} {l : List AVal} (hr : RepV F φ x v) (hc : cellsA x = some l) :
    v.cells.size = l.length ∧ ∀ (j : Nat) (y : AVal), l[j]? = some y → ∃ u, v.cells[j]? = some u ∧ RepV F φ y u ∧ u.oneCell' = true := by
  unfold cellsA at hc
  split at hc
  · rename_i l'
    injection hc with e; subst e
    obtain ⟨vs, rfl, hl, hx⟩ := agg_cells hr
    exact ⟨hl, hx⟩
  · split at hc
    · rename_i h1
      injection hc with e; subst e
      obtain ⟨q1, q2⟩ := one_cell hr h1
      rw [q2]
      refine ⟨rfl, fun j y hy => ?_⟩
      match j, hy with
      | 0, hy => simp at hy; subst hy; exact ⟨v, rfl, hr, q1⟩
    · cases hc

theorem fold_set (vs : List Value) : ∀ (o s : Nat) (cells : Array Value), o + s + vs.length ≤ cells.size →
    ((vs.zipIdx s).foldl (fun cs (p : Value × Nat) => cs.setIfInBounds (o + p.2) p.1) cells).size = cells.size ∧
    ∀ m, ((vs.zipIdx s).foldl (fun cs (p : Value × Nat) => cs.setIfInBounds (o + p.2) p.1) cells)[m]? = if o + s ≤ m ∧ m < o + s + vs.length then vs[m - (o + s)]? else cells[m]? := by
  induction vs with
  | nil => intro o s cells _; exact ⟨rfl, fun m => by rw [if_neg (by simp)]; rfl⟩
  | cons v vs ih =>
    intro o s cells h
    simp only [List.length_cons] at h
    rw [List.zipIdx_cons, List.foldl_cons]
    obtain ⟨h1, h2⟩ := ih o (s + 1) (cells.setIfInBounds (o + s) v) (by simp; omega)
    refine ⟨by rw [h1]; simp, fun m => ?_⟩
    rw [h2]
    by_cases hm : m = o + s
    · subst hm
      rw [if_neg (by omega), if_pos (by simp), Array.getElem?_setIfInBounds_self_of_lt (by omega)]; simp
    · by_cases hin : o + (s + 1) ≤ m ∧ m < o + (s + 1) + vs.length
      · rw [if_pos hin, if_pos (by simp; omega)]
        rw [show m - (o + s) = (m - (o + (s + 1))) + 1 by omega, List.getElem?_cons_succ]
      · rw [if_neg hin, if_neg (by simp; omega), Array.getElem?_setIfInBounds_ne (by omega)]

theorem fold_setA (v : Value) (o : Nat) (cells : Array Value) (h : o + v.cells.size ≤ cells.size) :
    (v.cells.zipIdx.foldl (fun cs (p : Value × Nat) => cs.setIfInBounds (o + p.2) p.1) cells).size = cells.size ∧
    ∀ m, (v.cells.zipIdx.foldl (fun cs (p : Value × Nat) => cs.setIfInBounds (o + p.2) p.1) cells)[m]? = if o ≤ m ∧ m < o + v.cells.size then v.cells[m - o]? else cells[m]? := by
  have := fold_set v.cells.toList o 0 cells (by simpa using h)
  have e : v.cells.zipIdx.foldl (fun cs (p : Value × Nat) => cs.setIfInBounds (o + p.2) p.1) cells = (v.cells.toList.zipIdx 0).foldl (fun cs (p : Value × Nat) => cs.setIfInBounds (o + p.2) p.1) cells := by
    rw [← Array.foldl_toList, Array.toList_zipIdx]
  rw [e]
  simpa using this


theorem fillA_ok {T : Tab} {fs : List (Nat × TypeId)} : ∀ (ps : List (Nat × AVal)) (vs : List (Nat × Value)) (l : List AVal) (cells : Array Value), ps.length = vs.length →
    (∀ (q : Nat) (p : Nat × AVal) (v : Nat × Value), ps[q]? = some p → vs[q]? = some v → p.1 = v.1 ∧ RepV F φ p.2 v.2) →
    cells.size = l.length → (∀ (j : Nat) (x : AVal), l[j]? = some x → ∃ u, cells[j]? = some u ∧ RepV F φ x u ∧ u.oneCell' = true) → (fillA T fs l ps).1 = true →
    ∃ cells', Instr.fill (fun x => (fs.map fun f => (f.1, (T f.2).sz))[x]?) cells vs = some cells' ∧ cells'.size = (fillA T fs l ps).2.length ∧ ∀ (j : Nat) (x : AVal), (fillA T fs l ps).2[j]? = some x → ∃ u, cells'[j]? = some u ∧ RepV F φ x u ∧ u.oneCell' = true
  | [], [], l, cells, _, _, hs, hr, _ => ⟨cells, rfl, hs, hr⟩
  | [], _ :: _, _, _, hl, _, _, _, _ => by simp at hl
  | _ :: _, [], _, _, hl, _, _, _, _ => by simp at hl
  | (i, x) :: ps, (i', v) :: vs, l, cells, hl, hp, hs, hr, hc => by
    obtain ⟨he, hv⟩ := hp 0 _ _ rfl rfl
    simp only at he hv
    subst he
    simp only [fillA] at hc ⊢
    cases hf : fs[i]? with
    | none => rw [hf] at hc; simp at hc
    | some f =>
      obtain ⟨off, ft⟩ := f
      cases hx : cellsA x with
      | none => rw [hf, hx] at hc; simp at hc
      | some xs =>
        rw [hf, hx] at hc
        simp only [Bool.and_eq_true, decide_eq_true_eq] at hc ⊢
        obtain ⟨⟨h1, h2⟩, h3⟩ := hc
        obtain ⟨s1, s2⟩ := cells_rep hv hx
        obtain ⟨f1, f2⟩ := fold_setA v off cells (by omega)
        have hlen : (setAt off l xs).length = l.length := by simp [setAt]; omega
        have hset : ∀ (j : Nat) (y : AVal), (setAt off l xs)[j]? = some y → ∃ u, (v.cells.zipIdx.foldl (fun cs (p : Value × Nat) => cs.setIfInBounds (off + p.2) p.1) cells)[j]? = some u ∧ RepV F φ y u ∧ u.oneCell' = true := by
          intro j y hy
          rw [f2]
          unfold setAt at hy
          by_cases hj : j < off
          · rw [if_neg (by omega)]
            rw [List.append_assoc, List.getElem?_append_left (by simp; omega), List.getElem?_take_of_lt hj] at hy
            exact hr j y hy
          · by_cases hj2 : j < off + xs.length
            · rw [if_pos (by omega)]
              rw [List.append_assoc, List.getElem?_append_right (by simp; omega), List.getElem?_append_left (by simp; omega)] at hy
              have e : j - (l.take off).length = j - off := by simp; omega
              rw [e] at hy
              exact s2 _ _ hy
            · rw [if_neg (by omega)]
              rw [List.getElem?_append_right (by simp; omega), List.getElem?_drop] at hy
              have e : off + xs.length + (j - (l.take off ++ xs).length) = j := by simp; omega
              rw [e] at hy
              exact hr j y hy
        obtain ⟨c', r1, r2, r3⟩ := fillA_ok ps vs (setAt off l xs) _ (by simpa using hl) (fun q p v hp' hv' => hp (q + 1) p v (by simpa using hp') (by simpa using hv')) (by rw [f1, hlen, hs]) hset h3
        refine ⟨c', ?_, r2, r3⟩
        simp only [Instr.fill, List.getElem?_map, hf, Option.map_some]
        rw [if_neg (by simp; omega)]
        simpa [List.getElem?_map] using r1

theorem places_run {T : Tab} (hT : TabOk P T) (w : World) : ∀ (fields : List Field), (fields.all fun f => known (T f.type)) = true →
    (fields.mapM fun f => Prod.mk f.offset <$> sizeOf f.type).run P w = .ok (fields.map fun f => (f.offset, (T f.type).sz)) w
  | [], _ => by simp
  | f :: fs, h => by
    simp only [List.all_cons, Bool.and_eq_true] at h
    simp [List.mapM_cons, size_run hT h.1 w, places_run hT w fs h.2]

theorem buildS_ok {T : Tab} (hT : TabOk P T) {t : TypeId} {ps : List (Nat × AVal)} {vs : Array (Nat × Value)} (hl : ps.length = vs.size)
    (hp : ∀ (q : Nat) (p : Nat × AVal) (v : Nat × Value), ps[q]? = some p → vs[q]? = some v → p.1 = v.1 ∧ RepV F φ p.2 v.2) (hc : (buildA T (T t) ps).1 = true) : Yields P F φ w (Instr.build t vs) (buildA T (T t) ps).2 := by
  unfold buildA at hc ⊢
  split at hc
  · rename_i fs cs hd hz
    simp only [Bool.and_eq_true] at hc ⊢
    obtain ⟨⟨h1, h2⟩, h3⟩ := hc
    obtain ⟨fields, hu, hf⟩ := struct_under hT hd
    have hk : known (T t) = true := by simp [known, hd]
    obtain ⟨c', r1, r2, r3⟩ := fillA_ok (F := F) (φ := φ) ps vs.toList (cs.toList.map absV) cs (by simpa using hl) (fun q p v hp' hv' => hp q p v hp' (by simpa using hv')) (by simp) (fun j x hx => by
      rw [List.getElem?_map, Array.getElem?_toList] at hx
      cases hq : cs[j]? with
      | none => rw [hq] at hx; simp at hx
      | some u =>
        rw [hq] at hx; simp at hx; subst hx
        exact ⟨u, rfl, absV_rep F φ u, (List.all_eq_true.1 h2) u (by simpa using Array.mem_of_getElem? hq)⟩) h3
    refine ⟨.agg c', fun w _ => ?_, .agg _ _ r2.symm (fun j u hu' => ?_) (fun j x u hx hu' => ?_)⟩
    · have hplaces := places_run hT w fields.toList (by rw [← hf] at h1; simpa [List.all_map] using h1)
      have r1' : Instr.fill (fun x => (fields.toList.map fun f => (f.offset, (T f.type).sz))[x]?) cs vs.toList = some c' := by
        rw [← hf] at r1
        simpa [List.map_map, Function.comp_def] using r1
      simp [Instr.build, run_underlying hu, zero_run hT hk, hz, Value.cells, Array.mapM_eq_mapM_toList, hplaces]
      simp at r1'
      simp [r1']
    · have hj : j < (fillA T fs (cs.toList.map absV) ps).2.length := by
        rw [← r2]
        rcases Nat.lt_or_ge j c'.size with q | q
        · exact q
        · rw [Array.getElem?_eq_none q] at hu'; cases hu'
      obtain ⟨u2, e1, _, e3⟩ := r3 j _ (List.getElem?_eq_getElem hj)
      rw [hu'] at e1; cases e1; exact e3
    · obtain ⟨u2, e1, e2, _⟩ := r3 j x hx
      rw [hu'] at e1; cases e1; exact e2
  · cases hc

set_option maxHeartbeats 1000000 in
theorem pv_ok (hT : TabOk P T) (h : Rel F φ w0 st a w) {o : Oper} (hc : (pv T st.h true (opd st.s) o.op).1 = true) :
    ∃ u, (∀ w', Below w.heap.size w w' → (execOp a.eval o).run P w' = .ok (.value u) w') ∧ RepV F φ (pv T st.h true (opd st.s) o.op).2 u := by
  obtain ⟨dst, op, type, pos, after, guard⟩ := o
  simp only at hc ⊢
  cases op <;> simp only [pv, Bool.false_eq_true, Bool.and_eq_true, Bool.not_true, Bool.false_or] at hc ⊢
  case move x => exact ⟨_, fun w _ => by simp [execOp], ev_rep h hc⟩
  case assign x => exact ⟨_, fun w _ => by simp [execOp], ev_rep h hc⟩
  case pick c x y =>
    obtain ⟨⟨⟨⟨⟨h1, h2⟩, h3⟩, h4⟩, h5⟩, h6⟩ := hc
    have hcv := isB_inv (ev_rep h h1) h2
    cases hb : bv (sv (opd st.s c)) with
    | true =>
      rw [hb] at h3 hcv
      have hx := isB_inv (ev_rep h (by simpa using h3)) h4
      exact ⟨.bool (bv (sv (opd st.s x))), fun w _ => by simp [execOp, hcv, asBool, hx], .bool _⟩
    | false =>
      rw [hb] at h5 hcv
      have hx := isB_inv (ev_rep h (by simpa using h5)) h6
      exact ⟨.bool (bv (sv (opd st.s y))), fun w _ => by simp [execOp, hcv, asBool, hx], .bool _⟩
  case binOp op t x y yt =>
    obtain ⟨⟨h1, h2⟩, h3⟩ := hc
    have hx := ev_rep h h1
    have hy := ev_rep h h2
    have hg : eqGuard op t x y (a.eval x) (a.eval y) = pure () := by
      generalize a.eval x = u at hx
      generalize sv (opd st.s x) = X at hx h3
      cases hx <;> first | exact eqGuard_at_int _ _ _ _ _ _ _ | exact eqGuard_at_bool _ _ _ _ _ _ | exact eqGuard_at_string _ _ _ _ _ _ | (exfalso; revert h3; unfold bin3 bin2; cases sv (opd st.s y) <;> simp)
    exact val_of (by simp only [execOp, hg]; rfl) (bin3_ok hT hx hy h3)
  case unOp op t x => exact val_of (by simp only [execOp]) (un1_ok (ev_rep h hc.1) hc.2)
  case extract x i => exact val_of (by simp only [execOp]) (ext_ok (ev_rep h hc.1) hc.2)
  case load t x => exact val_of (by simp only [execOp]) (load_ok hT h.heap hc.1.1 (ev_rep h hc.1.2) hc.2)
  case field t x f => exact val_of (by simp only [execOp]) (field_ok hT (ev_rep h hc.1) hc.2)
  case fieldAddr t x f => exact val_of (by simp only [execOp]) (fieldAddr_ok hT (ev_rep h hc.1) hc.2)
  case build t ps =>
    obtain ⟨h1, h2⟩ := hc
    refine val_of (s := Instr.build t (ps.map fun (i, x) => (i, a.eval x))) (by simp only [execOp]) (buildS_ok hT (by simp) (fun q p v hp hv => ?_) h2)
    rw [List.getElem?_map, Array.getElem?_toList] at hp
    rw [Array.getElem?_map] at hv
    cases hq : ps[q]? with
    | none => rw [hq] at hp; cases hp
    | some y =>
      rw [hq] at hp hv
      simp at hp hv
      subst hp hv
      exact ⟨rfl, ev_rep h ((List.all_eq_true.1 h1) y (by simpa using Array.mem_of_getElem? hq))⟩
  case convert s d x =>
    split at hc
    · rename_i k k' n hd hx
      simp only [Bool.and_eq_true, inb_iff] at hc
      obtain ⟨⟨h1, h2⟩, h3⟩ := hc
      have hr := ev_rep h h1
      rw [hx] at hr
      obtain ⟨hv, _⟩ := int_inv hr
      refine val_of (s := convert s d (a.eval x)) (by simp only [execOp]) ⟨.int k n, fun w _ => ?_, .int _ _ h3.1 h3.2⟩
      have hsrc : ∃ q, P.underlying s = some q := by
        have := hT s; unfold RowOk at this; unfold known at h2
        split at this
        · rename_i hd; rw [hd] at h2; cases h2
        all_goals first | exact ⟨_, this.1⟩ | exact ⟨_, this.1.choose_spec.1⟩
      obtain ⟨q, hq⟩ := hsrc
      rw [hv]
      have hdu := int_under hT hd
      have := run_convert_int (P := P) w s d k' n (by rw [hq]; rfl) (by rw [hdu]; simp [Program.intKind, hdu])
      rw [this]
      simp [Program.intKind, hdu, wrap_in h3.1 h3.2]
    · rename_i hd
      simp only [Bool.and_eq_true] at hc
      exact val_of (by simp only [execOp]) (byteStr_ok hT h.heap hd (ev_rep h hc.1) hc.2)
    · cases hc
  case indexAddr t x i =>
    split at hc
    · rename_i e hd
      simp only [Bool.and_eq_true] at hc
      obtain ⟨⟨⟨h1, h2⟩, h3⟩, h4⟩ := hc
      exact val_of (by simp only [execOp]) (idxA_ok hT h.heap hd h1 (ev_rep h h2) (ev_rep h h3) h4)
    · cases hc
  case index t x i =>
    split at hc
    · rename_i hd
      simp only [Bool.and_eq_true] at hc
      obtain ⟨⟨h2, h3⟩, h4⟩ := hc
      exact val_of (by simp only [execOp]) (str_ok hT hd (ev_rep h h2) (ev_rep h h3) h4)
    · cases hc
  case makeFunc fn first caps =>
    cases fn <;> simp only [Bool.false_eq_true, Bool.and_eq_true, decide_eq_true_eq, List.all_eq_true] at hc ⊢
    rename_i f
    obtain ⟨h1, h2⟩ := hc
    have hf : first = #[] := by simpa using h1
    subst hf
    refine ⟨.func (.func f) #[] (caps.map a.eval), fun w _ => by simp [execOp, Instr.makeFunc], .func _ _ _ (by simp) (fun i x v hx hv => ?_)⟩
    rw [List.getElem?_map, Array.getElem?_toList] at hx
    rw [Array.getElem?_map] at hv
    cases hq : caps[i]? with
    | none => rw [hq] at hx; cases hx
    | some q =>
      rw [hq] at hx hv
      simp at hx hv
      subst hx hv
      exact ev_rep h (h2 q (by simpa using Array.mem_of_getElem? hq))
  case slice t x l hh m =>
    cases m with
    | some _ => simp only [Bool.false_eq_true] at hc
    | none =>
      simp only at hc ⊢
      split at hc
      · rename_i e hd
        simp only [Bool.and_eq_true] at hc
        obtain ⟨⟨⟨⟨⟨h1, h2⟩, h3⟩, h4⟩, h5⟩, h6⟩ := hc
        refine val_of (s := Instr.sliceAt t (a.eval x) (l.map a.eval) (hh.map a.eval) none) (by simp only [execOp, Option.map_none]) (slice_ok hT hd h1 (ev_rep h h3) (fun k xs he => ?_) (fun y hy => ?_) (fun hn => ?_) (fun y hy => ?_) (fun hn => ?_) (by simpa using h6))
        · rw [he] at h2; simpa using h2
        · cases l with
          | none => cases hy
          | some q => simp at hy; subst hy; exact ⟨_, rfl, ev_rep h (by simpa using h4)⟩
        · cases l with
          | none => rfl
          | some q => cases hn
        · cases hh with
          | none => cases hy
          | some q => simp at hy; subst hy; exact ⟨_, rfl, ev_rep h (by simpa using h5)⟩
        · cases hh with
          | none => rfl
          | some q => cases hn
      · cases hc
  case call c =>
    obtain ⟨callee, args, argTypes⟩ := c
    cases callee <;> simp only [Bool.false_eq_true] at hc ⊢
    rename_i b
    cases b <;> simp only [Bool.false_eq_true] at hc ⊢
    case len =>
      split at hc
      · rename_i x t hx ht
        simp only [Bool.and_eq_true] at hc
        obtain ⟨⟨h1, h2⟩, h3⟩ := hc
        have ha : args = #[x] := by apply Array.toList_inj.1; simpa using hx
        have ht' : argTypes = #[t] := by apply Array.toList_inj.1; simpa using ht
        subst ha ht'
        have h56 := fun w => len_ok (w := w) (ty := type) hT (ev_rep h h2) h1 (by simpa using h3)
        have h6 := (h56 w).2
        refine ⟨.int .i64 (lenA (sv (opd st.s x))).2, fun w _ => by simp [execOp, resolve, invoke, builtin, (h56 w).1], .int _ _ (by simp only [lo]; omega) (by simp only [hi, maxLen] at *; omega)⟩
      · cases hc
    all_goals
      simp only [Bool.and_eq_true, List.all_eq_true] at hc
      obtain ⟨h1, h2⟩ := hc
      have hlist : ∀ (i : Nat) (x : AVal) (v : Value), (args.toList.map fun x => sv (opd st.s x))[i]? = some x → (args.toList.map a.eval)[i]? = some v → RepV F φ x v := fun i x v hx hv => by
        rw [List.getElem?_map] at hx hv
        cases hq : args.toList[i]? with
        | none => rw [hq] at hx; cases hx
        | some q =>
          rw [hq] at hx hv
          simp at hx hv
          subst hx hv
          exact ev_rep h (h1 q (List.mem_of_getElem? hq))
      have hargs : args.map a.eval = (args.toList.map a.eval).toArray := by apply Array.toList_inj.1; simp
    · obtain ⟨u, hu, hr⟩ := max_ok (P := P) (w := w) (ts := argTypes) (ty := type) (by simp) hlist true h2
      refine ⟨u, fun w hw => ?_, hr⟩
      simp only [cond_true] at hu
      simp [execOp, resolve, invoke, builtin, hargs, hu w hw]
    · obtain ⟨u, hu, hr⟩ := max_ok (P := P) (w := w) (ts := argTypes) (ty := type) (by simp) hlist false h2
      refine ⟨u, fun w hw => ?_, hr⟩
      simp only [cond_false] at hu
      simp [execOp, resolve, invoke, builtin, hargs, hu w hw]

end
end Go.AX
