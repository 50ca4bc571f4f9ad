/-
  A list that is not empty, compared with nil; a row of the call's own, cut. Conditions: none.
-/
import Derived.Test.YthofnmjokdjppaaAxU
set_option linter.unusedSimpArgs false
set_option linter.unusedVariables false
namespace Go.AX
open Go Go.RowKit

def NonNil : AVal → Prop
  | .ints _ xs => xs ≠ []
  | .own _ n => 0 < n
  | .ownN _ _ => True
  | _ => False

variable {P : Program} {T : Tab} {F : Fz} {φ : Phi} {w0 w : World} {st : St}

theorem eqGuard_at_slice (op : BinOp) (t : TypeId) (x y : Operand) (A : Option Addr) (n c : Nat) (b : Value) : eqGuard op t x y (.slice A n c) b = pure () := by
  unfold eqGuard
  cases op <;> rfl
theorem run_slice_nil {op : BinOp} {b : Bool} (hq : op = .eql ∧ b = false ∨ op = .neq ∧ b = true) {t e : TypeId} (h : P.underlying t = some (.slice e)) (ad : Addr) (n c : Nat) (w : World) : (binOp op t (.slice (some ad) n c) (.slice none 0 0)).run P w = .ok (.bool b) w := by
  have key : ∀ d, (Op.equalIn (d + 1) t (.slice (some ad) n c) (.slice none 0 0)).run P w = .ok false w := fun d => by
    simp [Op.equalIn, run_underlying h]
  rcases hq with ⟨rfl, rfl⟩ | ⟨rfl, rfl⟩ <;> (simp only [binOp]; simp [Op.equal, Op.maxDepth, key 9999])
theorem nonNil_inv {X : AVal} (hX : NonNil X) {v : Value} (h : RepV F φ X v) : ∃ ad n c, v = .slice (some ad) n c := by
  cases h with
  | own id n g cap sz et h1 h2 h3 => exact ⟨_, _, _, rfl⟩
  | ownNil id h1 => exact absurd hX (Nat.lt_irrefl 0)
  | ownN id n g cap sz et h1 h2 h3 => exact ⟨_, _, _, rfl⟩
  | ints k xs v h1 =>
    cases h1 with
    | imm _ _ A n c q k1 k2 k3 k4 k5 k6 k7 =>
      have hpos : 0 < n := by
        rw [k1]
        have : xs ≠ [] := hX
        cases xs with
        | nil => exact absurd rfl this
        | cons y ys => simp [intEs]
      obtain ⟨ad, rfl⟩ := Option.ne_none_iff_exists'.1 (k5 hpos)
      exact ⟨ad, n, c, rfl⟩
  | _ => exact hX.elim

theorem AWPL_cmpn (hT : TabOk P T) (K : List Nat) {all : Array Oper} {Q : Exit → St → Prop} {rest : List Oper} {o : Oper} {op : BinOp} {t e yt : TypeId} {x y : Operand} {d : Nat} {b : Bool}
    (hop : o.op = .binOp op t x y yt) (hq : op = .eql ∧ b = false ∨ op = .neq ∧ b = true) (hdst : o.dst = some d) (hpc : pcOf all st.s o.guard = (true, true)) (hd : d < st.n) (ht : (T t).d = .slice e)
    (hy : opd st.s y = .nil) (hx : NonNil (opd st.s x))
    (h : ∀ st', (⟨st.n, keepL K (putL st.s d (.bool b)), st.h⟩ : St) = st' → AWPL P w0 all Q rest st') : AWPL P w0 all Q (o :: rest) st := by
  intro F φ a w hrel
  have hwant : Region.wanted o (yielded all a.tmps) = true := by rw [pc_wanted hrel (by rw [hpc]), hpc]
  refine wpList_step fun K' hK => ?_
  rw [if_pos hwant]
  have hyr := opd_rep hrel y
  rw [hy] at hyr
  have ey : a.eval y = .slice none 0 0 := by
    generalize a.eval y = u at hyr
    cases hyr; rfl
  obtain ⟨ad, n, c, ex⟩ := nonNil_inv hx (opd_rep hrel x)
  have hrun : (execOp a.eval o).run P w = .ok (.value (.bool b)) w := by
    obtain ⟨dst, op', type, pos, after, guard⟩ := o
    simp only at hop
    subst hop
    simp only [execOp, ex, ey, eqGuard_at_slice]
    simp [run_slice_nil hq (slice_under hT ht)]
  unfold Oper.wp
  rw [hrun]
  refine hK _ _ ?_
  rw [hdst]
  exact h _ rfl F φ _ w ((hrel.put hd (.bool b)).keep K)

/-- What lies behind may be forgotten. -/
theorem RelH.cutI {base : Nat} {H : List (Option Blk)} (h : RelH F φ base H w) {id : Nat} {et : TypeId} {ys zs : List Int} (hb : H[id]? = some (some (.ints et .i64 (ys ++ zs)))) (hne : ys ++ zs ≠ []) : RelH F φ base (H.set id (some (.ints et .i64 ys))) w := by
  have hidl : id < H.length := by
    rcases Nat.lt_or_ge id H.length with c | c
    · exact c
    · rw [List.getElem?_eq_none c] at hb; cases hb
  refine ⟨h.agree, fun i hi => h.unused i (by simpa using hi), fun i b hi => ?_, fun i j bi bj g c s t c' s' t' h1 h2 h3 h4 => ?_, h.good, fun j i l hj => by
    rw [List.getElem?_set] at hj
    split at hj
    · first | (simp at hj; done) | (split at hj <;> simp at hj)
    · exact h.pins j i l hj⟩
  · rcases Classical.em (i = id) with rfl | c
    · rw [List.getElem?_set_self hidl] at hi
      simp only [Option.some.injEq] at hi
      subst hi
      rcases h.blk i _ hb with ⟨hn, q⟩ | ⟨g', cap', cur, e1, hbase, hF, hcur, hlen, hcap, hsz, hel⟩
      · exfalso
        simp only [Blk.es, intEs, List.map_eq_nil_iff] at q
        exact hne q
      · have ees : (Blk.ints et IntKind.i64 (ys ++ zs)).es = (Blk.ints et IntKind.i64 ys).es ++ intEs .i64 zs := by simp [Blk.es, intEs]
        refine .inr ⟨g', cap', cur, e1, hbase, hF, hcur, ?_, hcap, hsz, fun k e hk => hel k e ?_⟩
        · rw [ees, List.length_append] at hlen; omega
        · have hkl : k < (Blk.ints et IntKind.i64 ys).es.length := by
            rcases Nat.lt_or_ge k (Blk.ints et IntKind.i64 ys).es.length with c | c
            · exact c
            · rw [List.getElem?_eq_none c] at hk; cases hk
          rw [ees, List.getElem?_append_left hkl]; exact hk
    · rw [List.getElem?_set_ne (Ne.symm c)] at hi
      exact h.blk i b hi
  · have key : ∀ k b, (H.set id (some (.ints et .i64 ys)))[k]? = some (some b) → ∃ b', H[k]? = some (some b') := fun k b hk => by
      rcases Classical.em (k = id) with rfl | c
      · exact ⟨_, hb⟩
      · rw [List.getElem?_set_ne (Ne.symm c)] at hk; exact ⟨b, hk⟩
    obtain ⟨_, k1⟩ := key i bi h1
    obtain ⟨_, k2⟩ := key j bj h2
    exact h.inj i j _ _ _ _ _ _ _ _ _ k1 k2 h3 h4
end Go.AX
