/-
 A list that is not empty, compared with nil; a row of the call's own, cut. Answers that are nil or a list: what is said of them; lists of the call's own that are written no more.  Conditions: none.
-/
import Derived.Test.YtlpikingpnenkaaAxR
set_option linter.unusedSimpArgs false
set_option linter.unusedVariables false
namespace Go.AX
open Go Go.RowKit
variable {P : Program} {T : Tab} {F : Fz} {φ : Phi} {w0 w : World} {st : St}
end Go.AX
set_option linter.unusedSimpArgs false
set_option linter.unusedVariables false
namespace Go.SH
end Go.SH
namespace Go.AX
open Go Go.RowKit
variable {P : Program} {T : Tab} {F : Fz} {φ : Phi} {w0 w : World} {st : St}
/-- One block alone. -/
def onlyH (H : List (Option Blk)) (id : Nat) (b : Blk) : List (Option Blk) := (List.replicate H.length none).set id (some b)
theorem RelH.only {base : Nat} {H : List (Option Blk)} (h : RelH F φ base H w) {id : Nat} {b : Blk} (hb : H[id]? = some (some b)) : RelH F φ base (onlyH H id b) w := by
 have hk : ∀ i b', (onlyH H id b)[i]? = some (some b') → i = id ∧ b' = b := fun i b' hi => by
  unfold onlyH at hi
  rw [List.getElem?_set] at hi
  split at hi
  ·rename_i e
   split at hi
   ·simp at hi; exact ⟨e.symm, hi.symm⟩
   ·cases hi
  ·rw [List.getElem?_replicate] at hi
   split at hi <;> simp at hi
 refine ⟨h.agree, fun i hi => h.unused i (by simpa [onlyH] using hi), fun i b' hi => ?_, fun i j bi bj g hi hj _ _ => ?_, h.good, fun j i l hj => by
  obtain ⟨e1, e2⟩ := hk j _ hj
  rw [e2] at hj
  subst e1
  exact h.pins j i l (by rw [e2]; exact hb)⟩
 ·obtain ⟨rfl, rfl⟩ := hk i b' hi
  exact h.blk i _ hb
 ·rw [(hk i bi hi).1, (hk j bj hj).1]
theorem RelH.freeze {base : Nat} {H : List (Option Blk)} (h : RelH F φ base H w) {id : Nat} {b : Blk} (hb : H[id]? = some (some b)) : RelH (addOwn F φ (onlyH H id b) w) φ base (H.set id none) w := by
 have hidl : id < H.length := by
  rcases Nat.lt_or_ge id H.length with c | c
  ·exact c
  ·rw [List.getElem?_eq_none c] at hb; cases hb
 have hle : FLe F (addOwn F φ (onlyH H id b) w) := fun b o h => by simp [addOwn, h]
 have hold : ∀ i b', (H.set id none)[i]? = some (some b') → i ≠ id ∧ H[i]? = some (some b') := fun i b' hi => by
  rcases Classical.em (i = id) with rfl | c
  ·rw [List.getElem?_set_self hidl] at hi; simp at hi
  ·rw [List.getElem?_set_ne (Ne.symm c)] at hi; exact ⟨c, hi⟩
 refine ⟨(addOwn_agree (h.only hb)).1, fun i hi => h.unused i (by simpa using hi), fun i b' hi => ?_, fun i j bi bj g hi hj h1 h2 => h.sep i j _ _ g (hold i bi hi).2 (hold j bj hj).2 h1 h2, (addOwn_agree (h.only hb)).2, fun j i l hj => h.pins j i l (hold j _ hj).2⟩
 obtain ⟨hne, hi'⟩ := hold i b' hi
 refine (h.blk i b' hi').leO hle (PLe.refl φ) (fun g ho _ hg _ => ?_) fun _ _ => rfl
 unfold addOwn
 rw [hg]
 simp only
 refine if_neg ?_
 rintro ⟨id', b2, q1, q2⟩
 have hid' : id' = id := by
  unfold onlyH at q1
  rw [List.getElem?_set] at q1
  split at q1
  ·rename_i e; exact e.symm
  ·rw [List.getElem?_replicate] at q1
   split at q1 <;> simp at q1
 subst hid'
 exact hne (h.sep i id' _ _ _ hi' hb ho q2)
/-- What a list of the call's own that is written no more is like. -/
inductive FrzOk (H : List (Option Blk)) : AVal → AVal → Prop
 | one {x y : AVal} : ArgOk H x y → FrzOk H x y
 | tup {l m : List AVal} : ArgsOk H l m → FrzOk H (.tup l) (.tup m)
theorem FrzOk.rep {base : Nat} {H : List (Option Blk)} (h : RelH F φ base H w) {id : Nat} {b : Blk} (hb : H[id]? = some (some b)) {x y : AVal} (ha : FrzOk (onlyH H id b) x y) {w0 : World} (hbase : base = w0.heap.size) {v : Value} (hr : RepV F φ x v) : RepV (addOwn F φ (onlyH H id b) w) φ y v := by
 subst hbase
 have ho := h.only hb
 cases ha with
 | one ha => exact (argOk_rep (st := ⟨0, [], onlyH H id b⟩) ho ha hr).le (FLe.refl _) (PLe0 φ)
 | @tup l m ha =>
  obtain ⟨g1, g2⟩ := ha.get
  cases hr with
  | tup _ vs k1 k2 =>
   refine .tup m vs (by omega) fun q x v hx hv => ?_
   have hql : q < l.length := by
    rw [g1]
    rcases Nat.lt_or_ge q m.length with c | c
    ·exact c
    ·rw [List.getElem?_eq_none c] at hx; cases hx
   have hlq := List.getElem?_eq_getElem hql
   exact (argOk_rep (st := ⟨0, [], onlyH H id b⟩) ho (g2 q _ x hlq hx) (k2 q _ v hlq hv)).le (FLe.refl _) (PLe0 φ)
/-- What is shown of own blocks besides is new memory. -/
theorem addOwn_fln {H : List (Option Blk)} (h : RelH F φ w0.heap.size H w) : FLn w0 F (addOwn F φ H w) := by
 refine ⟨fun b o q => by simp [addOwn, q], fun b o q => ?_⟩
 unfold addOwn at q
 cases e : F b with
 | some x => rw [e] at q; exact .inl q
 | none =>
  rw [e] at q
  simp only at q
  split at q
  ·rename_i hx
   obtain ⟨id, b2, q1, q2⟩ := hx
   exact .inr ((h.blk id b2 q1).occ q2).1
  ·cases q
theorem FLn.after {w1 : World} {G H : Fz} (h : FLn w0 F G) (k : FLn w1 G H) (hs : w0.heap.size ≤ w1.heap.size) : FLn w0 F H := ⟨h.1.trans k.1, fun b o q => by
 rcases k.2 b o q with r | r
 ·exact h.2 b o r
 ·exact .inr (by omega)⟩
theorem AWP_freeze (i id : Nat) {b : Blk} {y : AVal} {c : Code} {Q : Exit → St → Prop} {st : St} (hb : st.h[id]? = some (some b)) (ha : FrzOk (onlyH st.h id b) (look st.s i) y)
  (h : ∀ st', (⟨st.n, putL st.s i y, st.h.set id none⟩ : St) = st' → AWP P w0 c Q st') : AWP P w0 c Q st := by
 intro F φ a w hr
 have hle : FLe F (addOwn F φ (onlyH st.h id b) w) := fun b o h => by simp [addOwn, h]
 have hrel : Rel (addOwn F φ (onlyH st.h id b) w) φ w0 ⟨st.n, putL st.s i y, st.h.set id none⟩ a w := by
  refine ⟨hr.heap.freeze hb, hr.size, fun j => ?_, hr.defers, hr.below⟩
  have hs := hr.slots j
  simp only [look_putL]
  split
  ·rename_i e
   subst e
   exact ha.rep hr.heap hb rfl hs
  ·exact hs.le hle (PLe.refl _)
 exact wp_mono (h _ rfl _ φ a w hrel) fun e a' w' hq => hq.le (addOwn_fln (hr.heap.only hb))
theorem wp_monoQ {o : Oper} {a : Act} {w : World} {K K' : Act → World → Prop} {Q Q' : Exit → Act → World → Prop} (h : ∀ a w, K a w → K' a w) (hq : ∀ e a w, Q e a w → Q' e a w)
  (hh : o.wp P a w K Q) : o.wp P a w K' Q' := by
 unfold Oper.wp at *
 generalize (execOp a.eval o).run P w = r at *
 have lo : LetsOut Q → LetsOut Q' := fun ⟨a, w, q⟩ => ⟨a, w, hq _ _ _ q⟩
 cases r with
 | ok n w' =>
  cases n <;> simp only [Oper.upon] at hh ⊢ <;>
   first
    | exact h _ _ hh
    | exact Calls.mono hh (fun e w'' he => by cases e <;> first | exact h _ _ he | exact hq _ _ _ he | exact lo he | exact he)
    | exact Rows.mono hh (fun _ _ he => h _ _ he)
 | halt x w' => cases x <;> simp only [Oper.upon] at hh ⊢ <;> first | exact hq _ _ _ hh | exact hh
theorem wpList_monoQ {ops : Array Oper} {Q Q' : Exit → Act → World → Prop} (hq : ∀ e a w, Q e a w → Q' e a w) : ∀ {l : List Oper} {a : Act} {w : World}, wpList P ops Q l a w → wpList P ops Q' l a w
 | [], a, w, h => hq _ _ _ h
 | o :: rest, a, w, h => by
  unfold wpList at h ⊢
  split
  ·rename_i hw
   rw [if_pos hw] at h
   rcases h with h | ⟨h, a', w', q⟩
   ·exact .inl (wp_monoQ (fun a w hk => wpList_monoQ hq hk) hq h)
   ·exact .inr ⟨h, a', w', hq _ _ _ q⟩
  ·rename_i hw
   rw [if_neg hw] at h
   exact wpList_monoQ hq h
theorem AWPL_freeze (i id : Nat) {b : Blk} {y : AVal} {all : Array Oper} {Q : Exit → St → Prop} {rest : List Oper} {st : St} (hb : st.h[id]? = some (some b)) (ha : FrzOk (onlyH st.h id b) (look st.s i) y)
  (h : ∀ st', (⟨st.n, putL st.s i y, st.h.set id none⟩ : St) = st' → AWPL P w0 all Q rest st') : AWPL P w0 all Q rest st := by
 intro F φ a w hr
 have hle : FLe F (addOwn F φ (onlyH st.h id b) w) := fun b o h => by simp [addOwn, h]
 have hrel : Rel (addOwn F φ (onlyH st.h id b) w) φ w0 ⟨st.n, putL st.s i y, st.h.set id none⟩ a w := by
  refine ⟨hr.heap.freeze hb, hr.size, fun j => ?_, hr.defers, hr.below⟩
  have hs := hr.slots j
  simp only [look_putL]
  split
  ·rename_i e
   subst e
   exact ha.rep hr.heap hb rfl hs
  ·exact hs.le hle (PLe.refl _)
 exact wpList_monoQ (fun e a' w' hq => hq.le (addOwn_fln (hr.heap.only hb))) (h _ rfl _ φ a w hrel)
end Go.AX
