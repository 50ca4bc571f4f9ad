/-
  A list that is not empty, compared with nil; a row of the call's own, cut. Answers that are nil or a list: what is said of them; lists of the call's own that are written no more.  Conditions: none.
-/
import Derived.Test.YtabhcjpjoknihaaAxU

set_option linter.unusedSimpArgs false
set_option linter.unusedVariables false
namespace Go.AX
open Go Go.RowKit

def NonNil : AVal → Prop
  | .ints _ xs => xs ≠ []
  | .own _ n => 0 < n
  | .ownN _ _ => True
  | _ => False

variable {P : Program} {T : Tab} {F : Fz} {φ : Phi} {w0 w : World} {st : St}

theorem eqGuard_at_slice (op : BinOp) (t : TypeId) (x y : Operand) (A : Option Addr) (n c : Nat) (b : Value) : eqGuard op t x y (.slice A n c) b = pure () := by
  unfold eqGuard
  cases op <;> rfl
theorem run_slice_nil {op : BinOp} {b : Bool} (hq : op = .eql ∧ b = false ∨ op = .neq ∧ b = true) {t e : TypeId} (h : P.underlying t = some (.slice e)) (ad : Addr) (n c : Nat) (w : World) : (binOp op t (.slice (some ad) n c) (.slice none 0 0)).run P w = .ok (.bool b) w := by
  have key : ∀ d, (Op.equalIn (d + 1) t (.slice (some ad) n c) (.slice none 0 0)).run P w = .ok false w := fun d => by
    simp [Op.equalIn, run_underlying h]
  rcases hq with ⟨rfl, rfl⟩ | ⟨rfl, rfl⟩ <;> (simp only [binOp]; simp [Op.equal, Op.maxDepth, key 9999])
theorem nonNil_inv {X : AVal} (hX : NonNil X) {v : Value} (h : RepV F φ X v) : ∃ ad n c, v = .slice (some ad) n c := by
  cases h with
  | own id n g cap sz et h1 h2 h3 => exact ⟨_, _, _, rfl⟩
  | ownNil id h1 => exact absurd hX (Nat.lt_irrefl 0)
  | ownN id n g cap sz et h1 h2 h3 => exact ⟨_, _, _, rfl⟩
  | ints k xs v h1 =>
    cases h1 with
    | imm _ _ A n c q k1 k2 k3 k4 k5 k6 k7 =>
      have hpos : 0 < n := by
        rw [k1]
        have : xs ≠ [] := hX
        cases xs with
        | nil => exact absurd rfl this
        | cons y ys => simp [intEs]
      obtain ⟨ad, rfl⟩ := Option.ne_none_iff_exists'.1 (k5 hpos)
      exact ⟨ad, n, c, rfl⟩
  | _ => exact hX.elim

theorem AWPL_cmpn (hT : TabOk P T) (K : List Nat) {all : Array Oper} {Q : Exit → St → Prop} {rest : List Oper} {o : Oper} {op : BinOp} {t e yt : TypeId} {x y : Operand} {d : Nat} {b : Bool}
    (hop : o.op = .binOp op t x y yt) (hq : op = .eql ∧ b = false ∨ op = .neq ∧ b = true) (hdst : o.dst = some d) (hpc : pcOf all st.s o.guard = (true, true)) (hd : d < st.n) (ht : (T t).d = .slice e)
    (hy : opd st.s y = .nil) (hx : NonNil (opd st.s x))
    (h : ∀ st', (⟨st.n, keepL K (putL st.s d (.bool b)), st.h⟩ : St) = st' → AWPL P w0 all Q rest st') : AWPL P w0 all Q (o :: rest) st := by
  intro F φ a w hrel
  have hwant : Region.wanted o (yielded all a.tmps) = true := by rw [pc_wanted hrel (by rw [hpc]), hpc]
  refine wpList_step fun K' hK => ?_
  rw [if_pos hwant]
  have hyr := opd_rep hrel y
  rw [hy] at hyr
  have ey : a.eval y = .slice none 0 0 := by
    generalize a.eval y = u at hyr
    cases hyr; rfl
  obtain ⟨ad, n, c, ex⟩ := nonNil_inv hx (opd_rep hrel x)
  have hrun : (execOp a.eval o).run P w = .ok (.value (.bool b)) w := by
    obtain ⟨dst, op', type, pos, after, guard⟩ := o
    simp only at hop
    subst hop
    simp only [execOp, ex, ey, eqGuard_at_slice]
    simp [run_slice_nil hq (slice_under hT ht)]
  unfold Oper.wp
  rw [hrun]
  refine hK _ _ ?_
  rw [hdst]
  exact h _ rfl F φ _ w ((hrel.put hd (.bool b)).keep K)

/-- What lies behind may be forgotten. -/
theorem RelH.cutI {base : Nat} {H : List (Option Blk)} (h : RelH F φ base H w) {id : Nat} {et : TypeId} {ys zs : List Int} (hb : H[id]? = some (some (.ints et .i64 (ys ++ zs)))) (hne : ys ++ zs ≠ []) : RelH F φ base (H.set id (some (.ints et .i64 ys))) w := by
  have hidl : id < H.length := by
    rcases Nat.lt_or_ge id H.length with c | c
    · exact c
    · rw [List.getElem?_eq_none c] at hb; cases hb
  refine ⟨h.agree, fun i hi => h.unused i (by simpa using hi), fun i b hi => ?_, fun i j bi bj g h1 h2 h3 h4 => ?_, h.good, fun j i l hj => by
    rw [List.getElem?_set] at hj
    split at hj
    · first | (simp at hj; done) | (split at hj <;> simp at hj)
    · exact h.pins j i l hj⟩
  · rcases Classical.em (i = id) with rfl | c
    · rw [List.getElem?_set_self hidl] at hi
      simp only [Option.some.injEq] at hi
      subst hi
      rcases (h.blk i _ hb).nxC rfl with ⟨hn, q⟩ | ⟨g', cap', cur, e1, hbase, hF, hcur, hlen, hcap, hsz, hel⟩
      · exfalso
        simp only [Blk.es, intEs, List.map_eq_nil_iff] at q
        exact hne q
      · have ees : (Blk.ints et IntKind.i64 (ys ++ zs)).es = (Blk.ints et IntKind.i64 ys).es ++ intEs .i64 zs := by simp [Blk.es, intEs]
        refine .inr (.inl ⟨g', cap', cur, e1, hbase, hF, hcur, ?_, hcap, hsz, fun k e hk => hel k e ?_⟩)
        · rw [ees, List.length_append] at hlen; omega
        · have hkl : k < (Blk.ints et IntKind.i64 ys).es.length := by
            rcases Nat.lt_or_ge k (Blk.ints et IntKind.i64 ys).es.length with c | c
            · exact c
            · rw [List.getElem?_eq_none c] at hk; cases hk
          rw [ees, List.getElem?_append_left hkl]; exact hk
    · rw [List.getElem?_set_ne (Ne.symm c)] at hi
      exact h.blk i b hi
  · have key : ∀ k b, (H.set id (some (.ints et .i64 ys)))[k]? = some (some b) → ∃ b', H[k]? = some (some b') := fun k b hk => by
      rcases Classical.em (k = id) with rfl | c
      · exact ⟨_, hb⟩
      · rw [List.getElem?_set_ne (Ne.symm c)] at hk; exact ⟨b, hk⟩
    obtain ⟨_, k1⟩ := key i bi h1
    obtain ⟨_, k2⟩ := key j bj h2
    exact h.sep i j _ _ _ k1 k2 h3 h4
end Go.AX

set_option linter.unusedSimpArgs false
set_option linter.unusedVariables false
namespace Go.SH
/-- What may be nil. -/
def optM {α β : Type} (y : Option α) (a : Option β) (b : α → Option β) : Option β := match y with | none => a | some x => b x
end Go.SH
namespace Go.AX
open Go Go.RowKit

def optA : Option (List Int) → AVal
  | none => .nil
  | some l => .ownN 0 l.length
def optB (et : TypeId) : Option (List Int) → List Blk
  | none => []
  | some l => [.ints et .i64 l]

variable {P : Program} {T : Tab} {F : Fz} {φ : Phi} {w0 w : World} {st : St}

theorem Pure_oN {f : FuncId} {a : List AVal} {et : TypeId} (h : Pure P f a (optA none) (optB et none)) : Pure P f a .nil [] := h
theorem Pure_oS {f : FuncId} {a : List AVal} {et : TypeId} {l : List Int} (h : Pure P f a (optA (some l)) (optB et (some l))) : Pure P f a (.ownN 0 l.length) [.ints et .i64 l] := h

theorem own_N {id n : Nat} (hn : 0 < n) {v : Value} (h : RepV F φ (.own id n) v) : RepV F φ (.ownN id n) v := by
  cases h with
  | own _ _ g cap sz et h1 h2 h3 => exact .ownN id n g cap sz et h1 h2 h3
  | ownNil _ _ => exact absurd hn (Nat.lt_irrefl 0)
theorem N_own {id n : Nat} {v : Value} (h : RepV F φ (.ownN id n) v) : RepV F φ (.own id n) v := by
  cases h with
  | ownN _ _ g cap sz et h1 h2 h3 => exact .own id n g cap sz et h1 h2 h3

theorem AWP_toN (i : Nat) {id n : Nat} {c : Code} {Q : Exit → St → Prop} {st : St} (hi : look st.s i = .own id n) (hn : 0 < n) (h : ∀ st', (⟨st.n, putL st.s i (.ownN id n), st.h⟩ : St) = st' → AWP P w0 c Q st') : AWP P w0 c Q st :=
  fun F φ a w hr => h _ rfl F φ a w (Rel.reslot hr (s' := putL st.s i (.ownN id n)) fun j v hv => by
    simp only [look_putL]
    split
    · rename_i e; subst e; rw [hi] at hv; exact own_N hn hv
    · exact hv)
theorem AWPL_deN (i : Nat) {id n : Nat} {all : Array Oper} {Q : Exit → St → Prop} {l : List Oper} {st : St} (hi : look st.s i = .ownN id n) (h : ∀ st', (⟨st.n, putL st.s i (.own id n), st.h⟩ : St) = st' → AWPL P w0 all Q l st') : AWPL P w0 all Q l st :=
  fun F φ a w hr => h _ rfl F φ a w (Rel.reslot hr (s' := putL st.s i (.own id n)) fun j v hv => by
    simp only [look_putL]
    split
    · rename_i e; subst e; rw [hi] at hv; exact N_own hv
    · exact hv)

theorem run_nil_nil {op : BinOp} {b : Bool} (hq : op = .eql ∧ b = true ∨ op = .neq ∧ b = false) {t e : TypeId} (h : P.underlying t = some (.slice e)) (w : World) : (binOp op t (.slice none 0 0) (.slice none 0 0)).run P w = .ok (.bool b) w := by
  have key : ∀ d, (Op.equalIn (d + 1) t (.slice none 0 0) (.slice none 0 0)).run P w = .ok true w := fun d => by
    simp [Op.equalIn, run_underlying h]
  rcases hq with ⟨rfl, rfl⟩ | ⟨rfl, rfl⟩ <;> (simp only [binOp]; simp [Op.equal, Op.maxDepth, key 9999])

theorem AWPL_cmpn0 (hT : TabOk P T) (K : List Nat) {all : Array Oper} {Q : Exit → St → Prop} {rest : List Oper} {o : Oper} {op : BinOp} {t e yt : TypeId} {x y : Operand} {d : Nat} {b : Bool}
    (hop : o.op = .binOp op t x y yt) (hq : op = .eql ∧ b = true ∨ op = .neq ∧ b = false) (hdst : o.dst = some d) (hpc : pcOf all st.s o.guard = (true, true)) (hd : d < st.n) (ht : (T t).d = .slice e)
    (hy : opd st.s y = .nil) (hx : opd st.s x = .nil)
    (h : ∀ st', (⟨st.n, keepL K (putL st.s d (.bool b)), st.h⟩ : St) = st' → AWPL P w0 all Q rest st') : AWPL P w0 all Q (o :: rest) st := by
  intro F φ a w hrel
  have hwant : Region.wanted o (yielded all a.tmps) = true := by rw [pc_wanted hrel (by rw [hpc]), hpc]
  refine wpList_step fun K' hK => ?_
  rw [if_pos hwant]
  have nilv : ∀ {z : Operand}, opd st.s z = .nil → a.eval z = .slice none 0 0 := fun {z} hz => by
    have hyr := opd_rep hrel z
    rw [hz] at hyr
    generalize a.eval z = u at hyr
    cases hyr; rfl
  have ey := nilv hy
  have ex := nilv hx
  have hrun : (execOp a.eval o).run P w = .ok (.value (.bool b)) w := by
    obtain ⟨dst, op', type, pos, after, guard⟩ := o
    simp only at hop
    subst hop
    simp only [execOp, ex, ey, eqGuard_at_slice]
    simp [run_nil_nil hq (slice_under hT ht)]
  unfold Oper.wp
  rw [hrun]
  refine hK _ _ ?_
  rw [hdst]
  exact h _ rfl F φ _ w ((hrel.put hd (.bool b)).keep K)

/-- An empty literal: not nil. -/
theorem AWPL_lit0 (hT : TabOk P T) (K : List Nat) {all : Array Oper} {Q : Exit → St → Prop} {rest : List Oper} {o : Oper} {t e : TypeId} {d : Nat}
    (hop : o.op = .buildSlice t 0 #[]) (hdst : o.dst = some d) (hpc : pcOf all st.s o.guard = (true, true)) (hd : d < st.n) (ht : (T t).d = .slice e) (hi : (T e).d = .int .i64)
    (hk : known (T e) = true) (hz : okZero (T e) = true) (hoi : okInt (T e) = true)
    (h : ∀ st', (⟨st.n, keepL K (putL st.s d (.ownN st.h.length 0)), st.h ++ [some (.ints e .i64 [])]⟩ : St) = st' → AWPL P w0 all Q rest st') : AWPL P w0 all Q (o :: rest) st := by
  intro F φ a w hrel
  have hwant : Region.wanted o (yielded all a.tmps) = true := by rw [pc_wanted hrel (by rw [hpc]), hpc]
  refine wpList_step fun K' hK => ?_
  rw [if_pos hwant]
  have hb : partsB e (T e) [] = some (.ints e .i64 []) := by simp [partsB, hi, intsOf]
  obtain ⟨φ', w', r1, r2⟩ := build_ok (P := P) hT hrel ht hk hz (fun k hk => (okInt_spec hoi k hk).1) (len := 0) (l := []) (vs := []) (by omega) rfl rfl (fun q p x hp hx => by simp at hp) hb hd
  have hrun : (execOp a.eval o).run P w = .ok (.value (.slice (some ⟨w.heap.size, 0, none⟩) 0 0)) w' := by
    obtain ⟨dst, op', type, pos, after, guard⟩ := o
    simp only at hop
    subst hop
    have r1' : (Instr.buildSlice t 0 #[]).run P w = .ok (.slice (some ⟨w.heap.size, 0, none⟩) 0 0) w' := r1
    simp only [execOp, Array.map_empty, Sem.run_bind, r1', Result.andThen_ok, Sem.run_pure]
  unfold Oper.wp
  rw [hrun]
  refine hK _ _ ?_
  rw [hdst]
  refine h _ rfl F φ' _ w' (Rel.keep (st := ⟨st.n, putL st.s d (.ownN st.h.length 0), st.h ++ [some (.ints e .i64 [])]⟩) ⟨r2.heap, r2.size, fun i => ?_, r2.defers, r2.below⟩ K)
  have hs := r2.slots i
  simp only [look_putL] at hs ⊢
  split
  · rename_i e1
    subst e1
    rw [if_pos rfl] at hs
    have hsz := hrel.size
    simp only [Act.put] at hs ⊢
    rw [Array.getD_eq_getD_getElem?, Array.getElem?_setIfInBounds_self_of_lt (by omega)] at hs ⊢
    simp only [Option.getD_some] at hs ⊢
    cases hs with
    | own _ _ g cap sz et h1 h2 h3 => exact .ownN _ _ _ _ _ _ h1 h2 h3
  · rename_i e1
    rw [if_neg e1] at hs
    exact hs

/-- One block alone. -/
def onlyH (H : List (Option Blk)) (id : Nat) (b : Blk) : List (Option Blk) := (List.replicate H.length none).set id (some b)

theorem RelH.only {base : Nat} {H : List (Option Blk)} (h : RelH F φ base H w) {id : Nat} {b : Blk} (hb : H[id]? = some (some b)) : RelH F φ base (onlyH H id b) w := by
  have hk : ∀ i b', (onlyH H id b)[i]? = some (some b') → i = id ∧ b' = b := fun i b' hi => by
    unfold onlyH at hi
    rw [List.getElem?_set] at hi
    split at hi
    · rename_i e
      split at hi
      · simp at hi; exact ⟨e.symm, hi.symm⟩
      · cases hi
    · rw [List.getElem?_replicate] at hi
      split at hi <;> simp at hi
  refine ⟨h.agree, fun i hi => h.unused i (by simpa [onlyH] using hi), fun i b' hi => ?_, fun i j bi bj g hi hj _ _ => ?_, h.good, fun j i l hj => by
    obtain ⟨e1, e2⟩ := hk j _ hj
    rw [e2] at hj
    subst e1
    exact h.pins j i l (by rw [e2]; exact hb)⟩
  · obtain ⟨rfl, rfl⟩ := hk i b' hi
    exact h.blk i _ hb
  · rw [(hk i bi hi).1, (hk j bj hj).1]

theorem RelH.freeze {base : Nat} {H : List (Option Blk)} (h : RelH F φ base H w) {id : Nat} {b : Blk} (hb : H[id]? = some (some b)) : RelH (addOwn F φ (onlyH H id b) w) φ base (H.set id none) w := by
  have hidl : id < H.length := by
    rcases Nat.lt_or_ge id H.length with c | c
    · exact c
    · rw [List.getElem?_eq_none c] at hb; cases hb
  have hle : FLe F (addOwn F φ (onlyH H id b) w) := fun b o h => by simp [addOwn, h]
  have hold : ∀ i b', (H.set id none)[i]? = some (some b') → i ≠ id ∧ H[i]? = some (some b') := fun i b' hi => by
    rcases Classical.em (i = id) with rfl | c
    · rw [List.getElem?_set_self hidl] at hi; simp at hi
    · rw [List.getElem?_set_ne (Ne.symm c)] at hi; exact ⟨c, hi⟩
  refine ⟨(addOwn_agree (h.only hb)).1, fun i hi => h.unused i (by simpa using hi), fun i b' hi => ?_, fun i j bi bj g hi hj h1 h2 => h.sep i j _ _ g (hold i bi hi).2 (hold j bj hj).2 h1 h2, (addOwn_agree (h.only hb)).2, fun j i l hj => h.pins j i l (hold j _ hj).2⟩
  obtain ⟨hne, hi'⟩ := hold i b' hi
  refine (h.blk i b' hi').leO hle (PLe.refl φ) (fun g ho _ hg _ => ?_) fun _ _ => rfl
  unfold addOwn
  rw [hg]
  simp only
  refine if_neg ?_
  rintro ⟨id', b2, q1, q2⟩
  have hid' : id' = id := by
    unfold onlyH at q1
    rw [List.getElem?_set] at q1
    split at q1
    · rename_i e; exact e.symm
    · rw [List.getElem?_replicate] at q1
      split at q1 <;> simp at q1
  subst hid'
  exact hne (h.sep i id' _ _ _ hi' hb ho q2)

/-- What a list of the call's own that is written no more is like. -/
inductive FrzOk (H : List (Option Blk)) : AVal → AVal → Prop
  | one {x y : AVal} : ArgOk H x y → FrzOk H x y
  | tup {l m : List AVal} : ArgsOk H l m → FrzOk H (.tup l) (.tup m)

theorem FrzOk.rep {base : Nat} {H : List (Option Blk)} (h : RelH F φ base H w) {id : Nat} {b : Blk} (hb : H[id]? = some (some b)) {x y : AVal} (ha : FrzOk (onlyH H id b) x y) {w0 : World} (hbase : base = w0.heap.size) {v : Value} (hr : RepV F φ x v) : RepV (addOwn F φ (onlyH H id b) w) φ y v := by
  subst hbase
  have ho := h.only hb
  cases ha with
  | one ha => exact (argOk_rep (st := ⟨0, [], onlyH H id b⟩) ho ha hr).le (FLe.refl _) (PLe0 φ)
  | @tup l m ha =>
    obtain ⟨g1, g2⟩ := ha.get
    cases hr with
    | tup _ vs k1 k2 =>
      refine .tup m vs (by omega) fun q x v hx hv => ?_
      have hql : q < l.length := by
        rw [g1]
        rcases Nat.lt_or_ge q m.length with c | c
        · exact c
        · rw [List.getElem?_eq_none c] at hx; cases hx
      have hlq := List.getElem?_eq_getElem hql
      exact (argOk_rep (st := ⟨0, [], onlyH H id b⟩) ho (g2 q _ x hlq hx) (k2 q _ v hlq hv)).le (FLe.refl _) (PLe0 φ)

theorem AWP_freeze (i id : Nat) {b : Blk} {y : AVal} {c : Code} {Q : Exit → St → Prop} {st : St} (hb : st.h[id]? = some (some b)) (ha : FrzOk (onlyH st.h id b) (look st.s i) y)
    (h : ∀ st', (⟨st.n, putL st.s i y, st.h.set id none⟩ : St) = st' → AWP P w0 c Q st') : AWP P w0 c Q st := by
  intro F φ a w hr
  have hle : FLe F (addOwn F φ (onlyH st.h id b) w) := fun b o h => by simp [addOwn, h]
  have hrel : Rel (addOwn F φ (onlyH st.h id b) w) φ w0 ⟨st.n, putL st.s i y, st.h.set id none⟩ a w := by
    refine ⟨hr.heap.freeze hb, hr.size, fun j => ?_, hr.defers, hr.below⟩
    have hs := hr.slots j
    simp only [look_putL]
    split
    · rename_i e
      subst e
      exact ha.rep hr.heap hb rfl hs
    · exact hs.le hle (PLe.refl _)
  exact wp_mono (h _ rfl _ φ a w hrel) fun e a' w' hq => hq.le hle
theorem wp_monoQ {o : Oper} {a : Act} {w : World} {K K' : Act → World → Prop} {Q Q' : Exit → Act → World → Prop} (h : ∀ a w, K a w → K' a w) (hq : ∀ e a w, Q e a w → Q' e a w)
    (hh : o.wp P a w K Q) : o.wp P a w K' Q' := by
  unfold Oper.wp at *
  generalize (execOp a.eval o).run P w = r at *
  have lo : LetsOut Q → LetsOut Q' := fun ⟨a, w, q⟩ => ⟨a, w, hq _ _ _ q⟩
  cases r with
  | ok n w' =>
    cases n <;> simp only [Oper.upon] at hh ⊢ <;>
      first
        | exact h _ _ hh
        | exact Calls.mono hh (fun e w'' he => by cases e <;> first | exact h _ _ he | exact hq _ _ _ he | exact lo he | exact he)
        | exact Rows.mono hh (fun _ _ he => h _ _ he)
  | halt x w' => cases x <;> simp only [Oper.upon] at hh ⊢ <;> first | exact hq _ _ _ hh | exact hh
theorem wpList_monoQ {ops : Array Oper} {Q Q' : Exit → Act → World → Prop} (hq : ∀ e a w, Q e a w → Q' e a w) : ∀ {l : List Oper} {a : Act} {w : World}, wpList P ops Q l a w → wpList P ops Q' l a w
  | [], a, w, h => hq _ _ _ h
  | o :: rest, a, w, h => by
    unfold wpList at h ⊢
    split
    · rename_i hw
      rw [if_pos hw] at h
      rcases h with h | ⟨h, a', w', q⟩
      · exact .inl (wp_monoQ (fun a w hk => wpList_monoQ hq hk) hq h)
      · exact .inr ⟨h, a', w', hq _ _ _ q⟩
    · rename_i hw
      rw [if_neg hw] at h
      exact wpList_monoQ hq h

theorem AWPL_freeze (i id : Nat) {b : Blk} {y : AVal} {all : Array Oper} {Q : Exit → St → Prop} {rest : List Oper} {st : St} (hb : st.h[id]? = some (some b)) (ha : FrzOk (onlyH st.h id b) (look st.s i) y)
    (h : ∀ st', (⟨st.n, putL st.s i y, st.h.set id none⟩ : St) = st' → AWPL P w0 all Q rest st') : AWPL P w0 all Q rest st := by
  intro F φ a w hr
  have hle : FLe F (addOwn F φ (onlyH st.h id b) w) := fun b o h => by simp [addOwn, h]
  have hrel : Rel (addOwn F φ (onlyH st.h id b) w) φ w0 ⟨st.n, putL st.s i y, st.h.set id none⟩ a w := by
    refine ⟨hr.heap.freeze hb, hr.size, fun j => ?_, hr.defers, hr.below⟩
    have hs := hr.slots j
    simp only [look_putL]
    split
    · rename_i e
      subst e
      exact ha.rep hr.heap hb rfl hs
    · exact hs.le hle (PLe.refl _)
  exact wpList_monoQ (fun e a' w' hq => hq.le hle) (h _ rfl _ φ a w hrel)
end Go.AX
