/-
 Several blocks of the call's own that are written no more: all at once.  Conditions: none.
-/
import Derived.Test.YtlpikingpnenkaaAxOp
set_option linter.unusedSimpArgs false
set_option linter.unusedVariables false
namespace Go.AX
open Go Go.RowKit
variable {P : Program} {T : Tab} {F : Fz} {φ : Phi} {w0 w : World} {st : St}
/-- These blocks alone. -/
def keepJ (H : List (Option Blk)) (J : List Nat) : List (Option Blk) := H.mapIdx fun i b => if J.contains i then b else none
/-- All but these blocks. -/
def dropJ (H : List (Option Blk)) (J : List Nat) : List (Option Blk) := H.mapIdx fun i b => if J.contains i then none else b
theorem keepJ_at {H : List (Option Blk)} {J : List Nat} {i : Nat} {b : Blk} (h : (keepJ H J)[i]? = some (some b)) : i ∈ J ∧ H[i]? = some (some b) := by
 unfold keepJ at h
 rw [List.getElem?_mapIdx] at h
 cases e : H[i]? with
 | none => rw [e] at h; cases h
 | some x =>
  rw [e] at h
  simp only [Option.map_some, Option.some.injEq] at h
  split at h
  ·rename_i c
   exact ⟨by simpa using c, by rw [h]⟩
  ·cases h
theorem dropJ_at {H : List (Option Blk)} {J : List Nat} {i : Nat} {b : Blk} (h : (dropJ H J)[i]? = some (some b)) : i ∉ J ∧ H[i]? = some (some b) := by
 unfold dropJ at h
 rw [List.getElem?_mapIdx] at h
 cases e : H[i]? with
 | none => rw [e] at h; cases h
 | some x =>
  rw [e] at h
  simp only [Option.map_some, Option.some.injEq] at h
  split at h
  ·cases h
  ·rename_i c
   exact ⟨by simpa using c, by rw [h]⟩
theorem RelH.keepJ {base : Nat} {H : List (Option Blk)} (h : RelH F φ base H w) (J : List Nat) : RelH F φ base (keepJ H J) w :=
 ⟨h.agree, fun i hi => h.unused i (by simpa [AX.keepJ] using hi), fun i b' hi => h.blk i b' (keepJ_at hi).2, fun i j bi bj g hi hj => h.sep i j bi bj g (keepJ_at hi).2 (keepJ_at hj).2, h.good, fun j i l hj => h.pins j i l (keepJ_at hj).2⟩
theorem RelH.freezeJ {base : Nat} {H : List (Option Blk)} (h : RelH F φ base H w) (J : List Nat) : RelH (addOwn F φ (AX.keepJ H J) w) φ base (dropJ H J) w := by
 have hle : FLe F (addOwn F φ (AX.keepJ H J) w) := fun b o h => by simp [addOwn, h]
 have hold := fun i b' hi => dropJ_at (H := H) (J := J) (i := i) (b := b') hi
 refine ⟨(addOwn_agree (h.keepJ J)).1, fun i hi => h.unused i (by simpa [dropJ] using hi), fun i b' hi => ?_, fun i j bi bj g hi hj h1 h2 => h.sep i j _ _ g (hold i bi hi).2 (hold j bj hj).2 h1 h2, (addOwn_agree (h.keepJ J)).2, fun j i l hj => h.pins j i l (hold j _ hj).2⟩
 obtain ⟨hne, hi'⟩ := hold i b' hi
 refine (h.blk i b' hi').leO hle (PLe.refl φ) (fun g ho _ hg _ => ?_) fun _ _ => rfl
 unfold addOwn
 rw [hg]
 simp only
 refine if_neg ?_
 rintro ⟨id', b2, q1, q2⟩
 obtain ⟨k1, k2⟩ := keepJ_at q1
 exact hne (h.sep i id' _ _ _ hi' k2 ho q2 ▸ k1)
theorem FrzOk.repJ {base : Nat} {H : List (Option Blk)} (h : RelH F φ base H w) {J : List Nat} {x y : AVal} (ha : FrzOk (keepJ H J) x y) {w0 : World} (hbase : base = w0.heap.size) {v : Value} (hr : RepV F φ x v) : RepV (addOwn F φ (keepJ H J) w) φ y v := by
 subst hbase
 have ho := h.keepJ J
 cases ha with
 | one ha => exact (argOk_rep (st := ⟨0, [], keepJ H J⟩) ho ha hr).le (FLe.refl _) (PLe0 φ)
 | @tup l m ha =>
  obtain ⟨g1, g2⟩ := ha.get
  cases hr with
  | tup _ vs k1 k2 =>
   refine .tup m vs (by omega) fun q x v hx hv => ?_
   have hql : q < l.length := by
    rw [g1]
    rcases Nat.lt_or_ge q m.length with c | c
    ·exact c
    ·rw [List.getElem?_eq_none c] at hx; cases hx
   have hlq := List.getElem?_eq_getElem hql
   exact (argOk_rep (st := ⟨0, [], keepJ H J⟩) ho (g2 q _ x hlq hx) (k2 q _ v hlq hv)).le (FLe.refl _) (PLe0 φ)
theorem Rel.freezeJ {w0 : World} {st : St} {a : Act} (hr : Rel F φ w0 st a w) (i : Nat) (J : List Nat) {y : AVal} (ha : FrzOk (keepJ st.h J) (look st.s i) y) :
  Rel (addOwn F φ (keepJ st.h J) w) φ w0 ⟨st.n, putL st.s i y, dropJ st.h J⟩ a w := by
 have hle : FLe F (addOwn F φ (keepJ st.h J) w) := fun b o h => by simp [addOwn, h]
 refine ⟨hr.heap.freezeJ J, hr.size, fun j => ?_, hr.defers, hr.below⟩
 have hs := hr.slots j
 simp only [look_putL]
 split
 ·rename_i e
  subst e
  exact ha.repJ hr.heap rfl hs
 ·exact hs.le hle (PLe.refl _)
theorem AWP_freezeJ (i : Nat) (J : List Nat) {y : AVal} {c : Code} {Q : Exit → St → Prop} {st : St} (ha : FrzOk (keepJ st.h J) (look st.s i) y)
  (h : ∀ st', (⟨st.n, putL st.s i y, dropJ st.h J⟩ : St) = st' → AWP P w0 c Q st') : AWP P w0 c Q st := by
 intro F φ a w hr
 have hle : FLe F (addOwn F φ (keepJ st.h J) w) := fun b o h => by simp [addOwn, h]
 exact wp_mono (h _ rfl _ φ a w (hr.freezeJ i J ha)) fun e a' w' hq => hq.le (addOwn_fln (hr.heap.keepJ J))
theorem AWP_stE {c : Code} {Q : Exit → St → Prop} {st : St} (st' : St) (he : st = st') (h : AWP P w0 c Q st') : AWP P w0 c Q st := he ▸ h
end Go.AX
