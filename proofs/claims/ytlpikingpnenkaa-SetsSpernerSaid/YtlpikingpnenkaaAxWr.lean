/-
 Operations on whole numbers that go round: conversions, differences, the negative. Conditions: none.
-/
import Derived.Test.YtlpikingpnenkaaAxR
set_option linter.unusedSimpArgs false
set_option linter.unusedVariables false
namespace Go.AX
open Go Go.RowKit
section
variable {P : Program} {T : Tab} {w0 : World} {st : St} {all : Array Oper} {Q : Exit → St → Prop} {rest : List Oper} {o : Oper}
theorem int_rep {F : Fz} {φ : Phi} {k : IntKind} {n : Int} {u : Value} (h : RepV F φ (.int k n) u) : u = .int k n := by cases h; rfl
/-- An operation whose answer is known, whatever the world. -/
theorem AWPL_val (K : List Nat) {d : Nat} (k : IntKind) (n : Int) (hb : lo k ≤ n ∧ n ≤ hi k) (hdst : o.dst = some d) (hpc : pcOf all st.s o.guard = (true, true)) (hd : d < st.n)
  (hrun : ∀ F φ a w, Rel F φ w0 st a w → (execOp a.eval o).run P w = .ok (.value (.int k n)) w)
  (h : ∀ st', (⟨st.n, keepL K (putL st.s d (.int k n)), st.h⟩ : St) = st' → AWPL P w0 all Q rest st') : AWPL P w0 all Q (o :: rest) st := by
 intro F φ a w hrel
 have hwant : Region.wanted o (yielded all a.tmps) = true := by rw [pc_wanted hrel (by rw [hpc]), hpc]
 refine wpList_step fun K' hK => ?_
 rw [if_pos hwant]
 unfold Oper.wp
 rw [hrun F φ a w hrel]
 refine hK _ _ ?_
 rw [hdst]
 exact h _ rfl F φ _ w ((hrel.put hd (.int k n hb.1 hb.2)).keep K)
theorem AWPL_wconv (hT : TabOk P T) (K : List Nat) {s t : TypeId} {x : Operand} {k k' : IntKind} {n : Int} {d : Nat} (hop : o.op = .convert s t x) (hdst : o.dst = some d) (hpc : pcOf all st.s o.guard = (true, true)) (hd : d < st.n)
  (hs : known (T s) = true) (ht : (T t).d = .int k) (hx : opd st.s x = .int k' n)
  (h : ∀ st', (⟨st.n, keepL K (putL st.s d (.int k (k.wrap n))), st.h⟩ : St) = st' → AWPL P w0 all Q rest st') : AWPL P w0 all Q (o :: rest) st := by
 refine AWPL_val K k (k.wrap n) ⟨wrap_lo k n, wrap_hi k n⟩ hdst hpc hd (fun F φ a w hrel => ?_) h
 have hxr := opd_rep hrel x
 rw [hx] at hxr
 have ex := int_rep hxr
 have hsrc : ∃ q, P.underlying s = some q := by
  have := hT s; unfold RowOk at this; unfold known at hs
  split at this
  ·rename_i hd; rw [hd] at hs; cases hs
  all_goals first | exact ⟨_, this.1⟩ | exact ⟨_, this.1.choose_spec.1⟩
 obtain ⟨q, hq⟩ := hsrc
 have hdu := int_under hT ht
 have := run_convert_int (P := P) w s t k' n (by rw [hq]; rfl) (by rw [hdu]; simp [Program.intKind, hdu])
 obtain ⟨dst, op', type, pos, after, guard⟩ := o
 simp only at hop
 subst hop
 simp only [execOp, ex]
 simp [this, Program.intKind, hdu]
theorem AWPL_wsub (K : List Nat) {t yt : TypeId} {x y : Operand} {k : IntKind} {m n : Int} {d : Nat} (hop : o.op = .binOp .sub t x y yt) (hdst : o.dst = some d) (hpc : pcOf all st.s o.guard = (true, true)) (hd : d < st.n)
  (hx : opd st.s x = .int k m) (hy : opd st.s y = .int k n)
  (h : ∀ st', (⟨st.n, keepL K (putL st.s d (.int k (k.wrap (m - n)))), st.h⟩ : St) = st' → AWPL P w0 all Q rest st') : AWPL P w0 all Q (o :: rest) st := by
 refine AWPL_val K k (k.wrap (m - n)) ⟨wrap_lo k _, wrap_hi k _⟩ hdst hpc hd (fun F φ a w hrel => ?_) h
 have hxr := opd_rep hrel x
 have hyr := opd_rep hrel y
 rw [hx] at hxr
 rw [hy] at hyr
 have ex := int_rep hxr
 have ey := int_rep hyr
 obtain ⟨dst, op', type, pos, after, guard⟩ := o
 simp only at hop
 subst hop
 simp only [execOp, ex, ey]
 simp [binOp, Op.intArith, eqGuard]
theorem AWPL_wneg (K : List Nat) {t : TypeId} {x : Operand} {k : IntKind} {n : Int} {d : Nat} (hop : o.op = .unOp .neg t x) (hdst : o.dst = some d) (hpc : pcOf all st.s o.guard = (true, true)) (hd : d < st.n)
  (hx : opd st.s x = .int k n)
  (h : ∀ st', (⟨st.n, keepL K (putL st.s d (.int k (k.wrap (-n)))), st.h⟩ : St) = st' → AWPL P w0 all Q rest st') : AWPL P w0 all Q (o :: rest) st := by
 refine AWPL_val K k (k.wrap (-n)) ⟨wrap_lo k _, wrap_hi k _⟩ hdst hpc hd (fun F φ a w hrel => ?_) h
 have hxr := opd_rep hrel x
 rw [hx] at hxr
 have ex := int_rep hxr
 obtain ⟨dst, op', type, pos, after, guard⟩ := o
 simp only at hop
 subst hop
 simp only [execOp, ex]
 simp [Op.unary, Op.intArith]
end
end Go.AX
